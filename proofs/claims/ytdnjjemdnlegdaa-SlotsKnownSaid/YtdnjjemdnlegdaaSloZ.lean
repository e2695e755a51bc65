/-
  append(b, make([]byte, n)...) onto a slice of bytes of the call's own.
-/
import Derived.Test.YtdnjjemdnlegdaaApp
import Derived.Lib.AppendZeros
namespace Go.Proofs.Ytdnjjemdnlegdaa
set_option linter.unusedVariables false
set_option linter.unusedSimpArgs false
open Go Go.RowKit
section
variable {P : Program}
theorem zeroCells_u8 (n : Nat) : Builtin.zeroCells #[.int .u8 0] n = (bcells (List.replicate n 0)).toArray := by
  apply Array.ext'
  apply List.ext_getElem?
  intro j
  simp only [Builtin.zeroCells, bcells, List.map_replicate]
  by_cases hj : j < n
  · simp [hj, byteV, bv, Nat.mod_one]
  · simp [hj]

theorem run_append_own_zeros {E base : Nat} {T tn ty : TypeId} {w : World} {v : Value} {xs : List (BitVec 8)} (ht : P.underlying T = some (.slice E)) (htn : P.underlying tn = some (.int .i64))
    (hi : (P.info? E).map (fun i => (i.zero, i.size, i.bytes)) = some (some (.int .u8 0), 1, 1)) (hown : OwnB E base w v xs) (hx : 0 < xs.length) (n : Nat) (h0 : 0 < n) (hlen : xs.length + n ≤ 1000000000) (hbase : base ≤ w.heap.size) :
    ∃ v' w', (Builtin.append_ #[T, tn] ty #[v, .int .i64 (n : Int)]).run P w = .ok v' w' ∧ OwnB E base w' v' (xs ++ List.replicate n 0) ∧ w.grownBy w' v.ownBlock := by
  obtain ⟨i, hi0, hz, hsz, hby⟩ := info_parts hi
  have hn : n ≠ 0 := by omega
  have hw : IntKind.i64.wrap (n : Int) = n := by rw [IntKind.wrap_i64]; omega
  have hneg : ¬ ((n : Int) < 0) := by omega
  have h48i : ¬ (281474976710656 < (n : Int)) := by omega
  have hl2 : (xs ++ List.replicate n (0 : BitVec 8)).length = xs.length + n := by simp
  have hbx : bcells (xs ++ List.replicate n 0) = bcells xs ++ bcells (List.replicate n 0) := bcells_append _ _
  have hZ1 := bcells_one (List.replicate n 0)
  have hZl : (bcells (List.replicate n 0)).length = n := by simp [bcells_length]
  have hzc : Builtin.zeroCells (Value.int .u8 0).cells n = (bcells (List.replicate n 0)).toArray := zeroCells_u8 n
  rw [show OwnB E base = fun w' v' ys => w'.ownsRow base E 1 v' ys.length (bcells ys) from rfl]
  simp only [hl2, hbx]
  generalize bcells (List.replicate n 0) = Z at hZ1 hZl hzc
  clear hbx
  rcases hown.2 with ⟨rfl, hx0⟩ | ⟨g, cap, cur, rfl, hbg, hg, hnc, hcm, hcs, htake⟩
  · omega
  · by_cases hroom : xs.length + n ≤ cap
    · have hst := run_storeCells_at P g xs.length E Z 0 cur w hg (by rw [hZl, hcs]; omega) hZ1
      simp only [Nat.add_zero] at hst
      refine ⟨.slice (some ⟨g, 0, none⟩) (xs.length + n) cap, w.setRow g (cur.toList.take xs.length ++ Z ++ cur.toList.drop (xs.length + Z.length)).toArray, ?_, ?_, ?_⟩
      · simp [Builtin.append_, run_underlying ht, run_underlying htn, sizeOf, typeInfo, zeroValue, hi0, hz, hsz, hby, asInt, asIntOf, hw, hn, hneg, h48i, hroom, Addr.add_lit, hst, hzc]
      · refine ⟨by simp [bcells_length, hZl], .inr ⟨g, cap, _, rfl, hbg, setRow_heap w g cur _ E _ hg, by omega, hcm, ?_, ?_⟩⟩
        · simp only [List.size_toArray, List.length_append, List.length_take, List.length_drop, Array.length_toList, hZl]
          omega
        · simp only [Nat.mul_one] at htake
          rw [htake, Nat.mul_one]
          exact List.take_left' (by simp [bcells_length, hZl])
      · exact ⟨rfl, rfl, rfl, by simp, fun k _ hk => setRow_other w g k _ (fun e => hk (by simp [Value.ownBlock, e]))⟩
    · have hol : (bcells xs).length = xs.length * i.size := by rw [bcells_length, hsz, Nat.mul_one]
      have holds : ∀ j u, (bcells xs)[j]? = some u → w.cell? ((⟨g, 0, none⟩ : Addr).add j) = some u := World.ownsRow.cells hown (g := g) rfl
      have hfo := run_firstCells_some (P := P) w.drew i.size xs.length ⟨g, 0, none⟩ xs.length cap (bcells xs) hol (by simpa using holds)
      rw [hsz] at hfo
      have hfit := growslice_fits (old := cap) (need := xs.length + n) (bytes := 1) (by omega) (by omega)
      have hge := grownCap_ge w (xs.length + n) cap E
      have hcm2 : grownCap w (xs.length + n) cap E ≤ maxLen := grownCap_le_maxLen w (xs.length + n) cap E (by unfold maxLen; omega)
      have h63' : ¬ (9223372036854775807 < ((xs.length : Int) + (n : Int))) := by omega
      have h48' : ¬ (281474976710656 < Builtin.nextslicecap (xs.length + n) cap) := by omega
      refine ⟨.slice (some ⟨w.heap.size, 0, none⟩) (xs.length + n) (grownCap w (xs.length + n) cap E), w.drew.alloc (.cells ((bcells xs).toArray ++ Z.toArray ++ Builtin.zeroCells (Value.int .u8 0).cells (grownCap w (xs.length + n) cap E - (xs.length + n))) E), ?_, ?_, ?_⟩
      · simp [Builtin.append_, run_underlying ht, run_underlying htn, sizeOf, typeInfo, zeroValue, hi0, hz, hsz, hby, asInt, asIntOf, hw, hn, hneg, h48i, hroom, h63', h48', Question.forced, hfo, hzc, newRow, grownCap]
        congr 2
        apply Array.ext'
        simp [List.append_assoc]
      · refine ⟨by simp [bcells_length, hZl], .inr ⟨w.heap.size, _, _, rfl, hbase, heap_alloc_new w.drew _, by omega, hcm2, ?_, ?_⟩⟩
        · simp only [Array.size_append, List.size_toArray, size_zeroCells, hZl, bcells_length, show (Value.int .u8 0).cells.size = 1 from rfl]; omega
        · rw [Nat.mul_one]
          simp only [Array.toList_append]
          exact List.take_left' (by simp [bcells_length, hZl])
      · exact ⟨rfl, rfl, rfl, by simp, fun k hk _ => Below.heap_alloc w.drew _ k hk⟩

/-- append(s, make([]byte, n)...). -/
theorem wpList_append_z {ops : Array Oper} {rest : List Oper} {o : Oper} {a : Act} {w : World} {Q : Exit → Act → World → Prop} (hgd : o.guard = none) (s x : Operand) (T tn E : TypeId)
    (ho : o.op = .call { callee := .builtin .append, args := #[s, x], argTypes := #[T, tn] }) (ht : P.underlying T = some (.slice E)) (htn : P.underlying tn = some (.int .i64))
    (hi : (P.info? E).map (fun i => (i.zero, i.size, i.bytes)) = some (some (.int .u8 0), 1, 1)) (base : Nat)
    (v : Value) (xs : List (BitVec 8)) (hown : OwnB E base w v xs) (hx0 : 0 < xs.length) (hs : a.eval s = v) (n : Nat) (h0 : 0 < n) (hx : a.eval x = .int .i64 (n : Int))
    (hlen : xs.length + n ≤ 1000000000) (hbase : base ≤ w.heap.size)
    (h : ∀ v' w', OwnB E base w' v' (xs ++ List.replicate n 0) → w.grownBy w' v.ownBlock → wpList P ops Q rest (a.put o.dst v') w') : wpList P ops Q (o :: rest) a w := by
  obtain ⟨v', w', hr, h1, h2⟩ := run_append_own_zeros (P := P) (ty := o.type) ht htn hi hown hx0 n h0 hlen hbase
  exact Lib.wpList_append_run w hgd s x T tn ho v (.int .i64 (n : Int)) hs hx v' w' hr (h v' w' h1 h2)
end
end Go.Proofs.Ytdnjjemdnlegdaa
