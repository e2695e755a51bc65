/-
  append onto a slice of the call's own: the old one keeps its bytes.
-/
import Derived.Test.YtdnjjemdnlegdaaKept
import Derived.Lib.AppendZeros
namespace Go.Proofs.Ytdnjjemdnlegdaa
set_option linter.unusedVariables false
set_option linter.unusedSimpArgs false
open Go Go.RowKit
section
variable {P : Program}
/-- A guarded operation that is wanted, in a plain region, by a law on operations without a guard. -/
theorem wpList_unguard {ops : Array Oper} {rest : List Oper} {o : Oper} {a : Act} {w : World} {Q : Exit → Act → World → Prop} (hw : Region.wanted o (yielded ops a.tmps) = true)
    (h : wpList P ops Q ({ o with guard := none } :: rest) a w) : wpList P ops Q (o :: rest) a w := by
  unfold wpList at h ⊢
  rw [if_pos (by simp [Region.wanted])] at h
  rw [if_pos hw]
  exact h
theorem OwnB.appended {E base : Nat} {T ty : TypeId} {w w' : World} {v v' : Value} {xs ys : List (BitVec 8)} {ad : Addr} {c : Nat} (ht : P.underlying T = some (.slice E))
    (hi : (P.info? E).map (fun i => (i.zero, i.size, i.bytes)) = some (some (.int .u8 0), 1, 1)) (hown : OwnB E base w v xs) (hnews : ∀ j u, (bcells ys)[j]? = some u → w.cell? (ad.add j) = some u)
    (hlen : xs.length + ys.length ≤ 1000000000) (hr : (Builtin.append_ #[T, T] ty #[v, .slice (some ad) ys.length c]).run P w = .ok v' w') : OwnB E base w' v xs := by
  obtain ⟨i, hi0, hz, hsz, hby⟩ := info_parts hi
  have hn : (bcells ys).length = ys.length * i.size := by rw [bcells_length, hsz, Nat.mul_one]
  rcases hown.2 with ⟨rfl, hx0⟩ | ⟨g, cap, cur, rfl, hbg, hg, hnc, hcm, hcs, htake⟩
  · exact ⟨hown.1, .inl ⟨rfl, hx0⟩⟩
  · by_cases hroom : xs.length + ys.length ≤ cap
    · have hfit : xs.length * i.size + (bcells ys).length ≤ cur.size := by rw [bcells_length, hsz, hcs]; omega
      have h2 := run_append_room (P := P) w T ty E i ht hi0 g xs.length cap cur hg ad ys.length c (bcells ys) hn hnews (bcells_one ys) hroom hfit
      have e := hr.symm.trans h2
      obtain ⟨_, rfl⟩ : _ ∧ w' = _ := by simpa using e
      refine ⟨hown.1, .inr ⟨g, cap, _, rfl, hbg, setRow_heap w g cur _ E _ hg, hnc, hcm, ?_, ?_⟩⟩
      · simp only [List.size_toArray, List.length_append, List.length_take, List.length_drop, Array.length_toList]
        omega
      · simp only [Nat.mul_one] at htake
        simp only [hsz, Nat.mul_one]
        rw [htake]
        exact List.take_left' (bcells_length xs)
    · have hol : (bcells xs).length = xs.length * i.size := by rw [bcells_length, hsz, Nat.mul_one]
      have holds : ∀ j u, (bcells xs)[j]? = some u → w.cell? ((⟨g, 0, none⟩ : Addr).add j) = some u := World.ownsRow.cells hown (g := g) rfl
      have h2 := run_append_grow (P := P) w T ty E i (.int .u8 0) ht hi0 hz ⟨g, 0, none⟩ xs.length cap (bcells xs) hol holds ad ys.length c (bcells ys) hn hnews (by omega) (by omega) (growslice_fits (by omega) (by rw [hby]; omega))
      have e := hr.symm.trans h2
      obtain ⟨_, rfl⟩ : _ ∧ w' = _ := by simpa using e
      exact hown.grown (row := none) ⟨rfl, rfl, rfl, by simp, fun k hk _ => Below.heap_alloc w.drew _ k hk⟩ (by simp [Value.ownBlock])
/-- append(s, x...): the new slice, and the old one. -/
theorem wpList_append_b2 {ops : Array Oper} {rest : List Oper} {o : Oper} {a : Act} {w : World} {Q : Exit → Act → World → Prop} (hgd : o.guard = none) (s x : Operand) (T E : TypeId)
    (ho : o.op = .call { callee := .builtin .append, args := #[s, x], argTypes := #[T, T] }) (ht : P.underlying T = some (.slice E))
    (hi : (P.info? E).map (fun i => (i.zero, i.size, i.bytes)) = some (some (.int .u8 0), 1, 1)) (base : Nat)
    (v : Value) (xs : List (BitVec 8)) (hown : OwnB E base w v xs) (hs : a.eval s = v) (u : Value) (ys : List (BitVec 8)) (hsl : SlB w u ys) (h0 : 0 < ys.length) (hx : a.eval x = u)
    (hlen : xs.length + ys.length ≤ 1000000000) (hbase : base ≤ w.heap.size)
    (h : ∀ v' w', OwnB E base w' v' (xs ++ ys) → w.grownBy w' v.ownBlock → OwnB E base w' v xs → wpList P ops Q rest (a.put o.dst v') w') : wpList P ops Q (o :: rest) a w := by
  obtain ⟨i, hi0, hz, hsz, hby⟩ := info_parts hi
  rcases hsl with ⟨⟨ad, rfl⟩, rfl⟩ | ⟨b, off, cap, rfl, h1, h2, h3, h4⟩
  · simp at h0
  · have hnews : ∀ j u, (bcells ys)[j]? = some u → w.cell? ((⟨b, off, none⟩ : Addr).add j) = some u := by
      intro j y hj
      have hlt : j < ys.length := by
        rw [← bcells_length]
        exact (List.getElem?_eq_some_iff.1 hj).1
      rw [bcells_get? ys j hlt] at hj
      obtain rfl : byteV (ys.getD j 0) = y := by simpa using hj
      have hadd : (⟨b, off, none⟩ : Addr).add j = ⟨b, off + j, none⟩ := by unfold Addr.add; split <;> simp_all
      rw [hadd]
      exact h4 j hlt
    obtain ⟨v', w', hr, how, hg, _⟩ := run_append_own (P := P) w base T o.type E i (.int .u8 0) 1 1 ht hi0 hz hsz hby rfl (by decide) v xs.length (bcells xs) hown ⟨b, off, none⟩ ys.length cap (bcells ys) (by simp [bcells]) hnews (bcells_one ys) (by unfold maxLen; omega) (by omega) hbase
    refine Lib.wpList_append_run w hgd s x T T ho _ _ hs hx v' w' hr (h v' w' (by simpa [OwnB, bcells_append] using how) hg (hown.appended ht hi hnews hlen hr))
end
end Go.Proofs.Ytdnjjemdnlegdaa
