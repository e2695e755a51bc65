/-
  The log's small calls: taken, slot.
-/
import Derived.Test.YtdnjjemdnlegdaaSloS
import Derived.Test.YtdnjjemdnlegdaaDk6
import Derived.Deep.QuietTactic
import Derived.BigQuiet
namespace Go.Proofs.Ytdnjjemdnlegdaa
set_option linter.unusedVariables false
set_option linter.unusedSimpArgs false
open Go Go.RowKit

theorem results_row_tmp {P : Program} {fn : Func} {p u : Tmp} {ty : TypeId} (h : fn.results = #[.cell p ty, .tmp u]) (tmps : Array Value) (w : World) (g : Nat) (t : TypeId) (cs : Array Value) (fr : Nat × Nat) (d : TypeDesc)
    (hp : tmps.getD p undef = .pointer (some ⟨g, 0, none⟩)) (hg : w.heap[g]? = some (.cells cs t fr))
    (hu : P.underlying ty = some d) (hd : (match d with | .struct _ | .array _ _ => true | _ => false) = true) (hi : (P.info? ty).map (·.size) = some cs.size) :
    (results fn tmps).run P w = .ok (.tuple #[.agg cs, tmps.getD u undef]) w := by
  have hp' : tmps[p]?.getD undef = .pointer (some ⟨g, 0, none⟩) := by simpa using hp
  simp [results, h, hp', asAddr, run_loadVar_row w g t ty cs fr d hg hu hd hi]

theorem ofInt_i64 (a : Nat) (ha : a < 18446744073709551616) : (BitVec.ofInt 64 (a : Int)).toNat = a := by
  rw [BitVec.ofInt_natCast, BitVec.toNat_ofNat]; exact Nat.mod_eq_of_lt (by omega)
theorem i64_or_nat (a b : Nat) (ha : a < 4294967296) (hb : b < 4294967296) : bits .or .i64 (a : Int) (b : Int) = ((a ||| b : Nat) : Int) := by
  have hx : a ||| b < 2 ^ 32 := Nat.or_lt_two_pow (by omega) (by omega)
  show IntKind.i64.wrap ((BitVec.ofInt 64 (a : Int) ||| BitVec.ofInt 64 (b : Int)).toNat : Int) = _
  rw [BitVec.toNat_or, ofInt_i64 a (by omega), ofInt_i64 b (by omega), IntKind.wrap_i64]
  omega
theorem i64_or_add (a b k : Nat) (hb : b < 2 ^ k) (ha : a * 2 ^ k < 4294967296) (hb2 : b < 4294967296) : bits .or .i64 ((a * 2 ^ k : Nat) : Int) (b : Int) = ((a * 2 ^ k + b : Nat) : Int) := by
  rw [i64_or_nat _ _ ha hb2, ← Nat.shiftLeft_eq, Nat.shiftLeft_add_eq_or_of_lt hb]
set_option maxRecDepth 100000 in
/-- Four bytes, put together. -/
theorem i64_or4 (a b c d : Nat) (ha : a < 256) (hb : b < 256) (hc : c < 256) (hd : d < 256) :
    bits .or .i64 ((a : Int) * 16777216) ((b : Int) * 65536) = ((256 * a + b : Nat) : Int) * 65536 ∧
    bits .or .i64 (((256 * a + b : Nat) : Int) * 65536) ((c : Int) * 256) = ((65536 * a + 256 * b + c : Nat) : Int) * 256 ∧
    bits .or .i64 (((65536 * a + 256 * b + c : Nat) : Int) * 256) (d : Int) = ((16777216 * a + 65536 * b + 256 * c + d : Nat) : Int) := by
  have e1 : ((a * 16777216 : Nat) : Int) = (a : Int) * 16777216 := by simp
  have e2 : ((b * 65536 : Nat) : Int) = (b : Int) * 65536 := by simp
  have e3 : ((c * 256 : Nat) : Int) = (c : Int) * 256 := by simp
  have e4 : (((256 * a + b) * 65536 : Nat) : Int) = ((256 * a + b : Nat) : Int) * 65536 := by simp only [Int.natCast_mul]; rfl
  have e5 : (((65536 * a + 256 * b + c) * 256 : Nat) : Int) = ((65536 * a + 256 * b + c : Nat) : Int) * 256 := by simp only [Int.natCast_mul]; rfl
  have f1 : ((a * 16777216 + b * 65536 : Nat) : Int) = ((256 * a + b : Nat) : Int) * 65536 := by rw [← e4]; exact congrArg (fun n : Nat => (n : Int)) (show a * 16777216 + b * 65536 = (256 * a + b) * 65536 by omega)
  have f2 : (((256 * a + b) * 65536 + c * 256 : Nat) : Int) = ((65536 * a + 256 * b + c : Nat) : Int) * 256 := by rw [← e5]; exact congrArg (fun n : Nat => (n : Int)) (show (256 * a + b) * 65536 + c * 256 = (65536 * a + 256 * b + c) * 256 by omega)
  have f3 : (65536 * a + 256 * b + c) * 256 + d = 16777216 * a + 65536 * b + 256 * c + d := by omega
  refine ⟨?_, ?_, ?_⟩
  · have h := i64_or_add a (b * 65536) 24 (by omega) (by omega) (by omega)
    rw [show 2 ^ 24 = 16777216 from rfl, e1, e2, f1] at h
    exact h
  · have h := i64_or_add (256 * a + b) (c * 256) 16 (by omega) (by omega) (by omega)
    rw [show 2 ^ 16 = 65536 from rfl, e4, e3, f2] at h
    exact h
  · have h := i64_or_add (65536 * a + 256 * b + c) d 8 (by omega) (by omega) (by omega)
    rw [show 2 ^ 8 = 256 from rfl, e5, f3] at h
    exact h

theorem taken_any (n : Nat) (hn : n ≤ 1000000000000) (w : World) : Calls Try.prog 52 #[.int .i64 (n : Int)] w fun e w' => e = .returned (.int .i64 ((Slo.taken n : Nat) : Int)) ∧ w = w' := by
  have HT := Lib.hid (show ((Slo.taken n : Nat) : Int) = (5 + (n : Int) + 128 - 1) / 128 by unfold Slo.taken; omega)
  have h1 : (n : Int) ≤ 1000000000000 := by omega
  generalize Slo.taken n = t at HT ⊢
  go_enter Try.func52, Try.ntmps52
  go_wp2
  go_ret
  exact ⟨by rw [HT.out]; rfl, rfl⟩

/-- What stands where a slot may begin, as a value of struct found. -/
def foundV (g off cap : Nat) : Slo.Found → Array Value
  | .no => #[.slice none 0 0, .int .i64 0]
  | .bad => #[.slice none 0 0, .int .i64 9]
  | .text t => #[.slice (some ⟨g, off + 5, none⟩) t.length (cap - 5), .int .i64 0]
def foundB : Slo.Found → Bool
  | .no => false
  | _ => true

theorem val4_bytes (b : List (BitVec 8)) : Num.val4 (b.drop 1) = 16777216 * (b.getD 1 0).toNat + 65536 * (b.getD 2 0).toNat + 256 * (b.getD 3 0).toNat + (b.getD 4 0).toNat := by
  unfold Num.val4
  have e : ∀ i, (b.drop 1).getD i 0 = b.getD (1 + i) 0 := fun i => by simp [List.getD, Nat.add_comm]
  rw [e, e, e, e]

set_option maxRecDepth 100000 in
set_option maxHeartbeats 2000000 in
theorem slot_any (b : List (BitVec 8)) (g off L cap : Nat) (w : World) (hs : SlB w (.slice (some ⟨g, off, none⟩) L cap) b) (hL : 128 ≤ L) (hm : L ≤ 4000000) :
    Calls Try.prog 66 #[.slice (some ⟨g, off, none⟩) L cap] w fun e w' => e = .returned (.tuple #[.agg (foundV g off cap (Slo.slot b)), .bool (foundB (Slo.slot b))]) ∧ Below w.heap.size w w' := by
  have hbn := hs.bounds
  obtain ⟨hlen, hcap, _⟩ := hbn
  have c0 := hs.cell 0 (by omega)
  have c1 := hs.cell 1 (by omega)
  have c2 := hs.cell 2 (by omega)
  have c3 := hs.cell 3 (by omega)
  have c4 := hs.cell 4 (by omega)
  unfold byteV bv at c0 c1 c2 c3 c4
  rw [Nat.add_zero] at c0
  have hv := val4_bytes b
  have HSL := Lib.hid (show Slo.slot b = (if b.getD 0 0 = 0 then .no else if b.getD 0 0 ≠ 1 then .bad else if 262144 < Num.val4 (b.drop 1) ∨ b.length < 128 * Slo.taken (Num.val4 (b.drop 1)) then .bad else .text ((b.drop 5).take (Num.val4 (b.drop 1)))) from rfl)
  rw [← hlen] at HSL
  have hx0 : b.getD 0 0 = 0 ↔ (b.getD 0 0).toNat = 0 := ⟨fun h => by rw [h]; rfl, fun h => BitVec.eq_of_toNat_eq h⟩
  have hx1 : b.getD 0 0 = 1 ↔ (b.getD 0 0).toNat = 1 := ⟨fun h => by rw [h]; rfl, fun h => BitVec.eq_of_toNat_eq h⟩
  have htl : Num.val4 (b.drop 1) + 5 ≤ L → ((b.drop 5).take (Num.val4 (b.drop 1))).length = Num.val4 (b.drop 1) := fun h => by rw [List.length_take, List.length_drop]; omega
  generalize (b.drop 5).take (Num.val4 (b.drop 1)) = tx at HSL htl
  rw [hv] at HSL htl
  have h0 := (b.getD 0 0).isLt
  have h1 := (b.getD 1 0).isLt
  have h2 := (b.getD 2 0).isLt
  have h3 := (b.getD 3 0).isLt
  have h4 := (b.getD 4 0).isLt
  generalize (b.getD 0 0).toNat = x0 at c0 hx0 hx1 h0
  generalize (b.getD 1 0).toNat = x1 at c1 HSL htl h1
  generalize (b.getD 2 0).toNat = x2 at c2 HSL htl h2
  generalize (b.getD 3 0).toNat = x3 at c3 HSL htl h3
  generalize (b.getD 4 0).toNat = x4 at c4 HSL htl h4
  obtain ⟨V, hV⟩ : ∃ V, 16777216 * x1 + 65536 * x2 + 256 * x3 + x4 = V := ⟨_, rfl⟩
  have HOR := Lib.hid (i64_or4 x1 x2 x3 x4 h1 h2 h3 h4)
  rw [hV] at HSL htl HOR
  have HTK := Lib.hid (fun w => taken_any V (by omega) w)
  have htg := Slo.taken_ge V
  have htu := Slo.taken_le V
  have HHL := Lib.hid hlen
  generalize Slo.taken V = tk at HSL HTK htg htu
  have HB := Lib.hid (show 16777216 * x1 + 65536 * x2 + 256 * x3 + x4 < 4294967296 by omega)
  have HIF := Lib.hid (fun (cs : Array Value) (h : cs.size = 2) => (show (Try.prog.info? 98).map (·.size) = some cs.size by rw [h]; kernel_rfl))
  obtain ⟨F, hF⟩ : ∃ F, Slo.slot b = F := ⟨_, rfl⟩
  rw [hF] at HSL ⊢
  have hgl : g < w.heap.size := by
    rcases hs with ⟨⟨a, e⟩, _⟩ | ⟨b', off', cap', e, _, _, h, _⟩
    · simp at e; omega
    · simp at e; obtain ⟨⟨rfl, _⟩, _⟩ := e; exact h
  have hb0 := ((Below.refl w.heap.size w).alloc (Nat.le_refl _) (.cells #[.slice none 0 0, .int .i64 0] 98))
  have HC := Lib.hid (fun W (hW : Below w.heap.size w W) => And.intro ((hW.cell (p := ⟨g, off, none⟩) hgl).trans c0) (And.intro ((hW.cell (p := ⟨g, off + 1, none⟩) hgl).trans c1) (And.intro ((hW.cell (p := ⟨g, off + 2, none⟩) hgl).trans c2) (And.intro ((hW.cell (p := ⟨g, off + 3, none⟩) hgl).trans c3) ((hW.cell (p := ⟨g, off + 4, none⟩) hgl).trans c4)))))
  have HEND := Lib.hid (fun (cs : Array Value) (W : World) (h : W.heap[w.heap.size]? = some (.cells cs 98 (0, 0))) (hB : Below w.heap.size w W) cs' => (show Below w.heap.size w (W.setRow w.heap.size cs') from hB.trans (((Kept.refl [w.heap.size] W).setRow (by simp) _).toBelow (B := w.heap.size) (by simp) hB.size)))
  clear hs hlen hF hv hgl hb0 c0 c1 c2 c3 c4
  by_cases he0 : x0 = 0
  · have HSV := Lib.hid (show F = .no by rw [HSL.out, if_pos (hx0.2 he0)])
    subst he0
    clear HSL hx0 hx1
    rw [HSV.out]
    go_enter Try.func66, Try.ntmps66
    go_upto_region 1 with fail
    obtain ⟨X, hX, hBX, hXs, hX0⟩ := alloc1 w (.cells #[.slice none 0 0, .int .i64 0] 98)
    rw [hX]
    have HBX := Lib.hid hBX
    have HX0 := Lib.hid hX0
    have d0 := (HC.out X hBX).1
    clear hX hBX hXs hX0
    go_wp2_with (refine wpList_store_row rfl 98 (.tmp 2) (.tmp 11) rfl w.heap.size _ rfl rfl _ _ HX0.out (HIF.out _ rfl) rfl (by kernel_rfl) ?_)
    exact bodyPost_ret (results_row_tmp Try.results66 _ _ w.heap.size _ _ _ _ rfl (setRow_heap _ _ _ _ _ _ HX0.out) Try.underlying98 rfl (HIF.out _ rfl)) rfl ⟨rfl, HEND.out _ X HX0.out HBX.out _⟩
  · by_cases he1 : x0 = 1
    · subst he1
      rw [if_neg (fun h => absurd (hx0.1 h) (by decide)), if_neg (fun h => h (hx1.2 rfl))] at HSL
      clear hx0 hx1 h0
      obtain ⟨X, hX, hBX, hXs, hX0⟩ := alloc1 w (.cells #[.slice none 0 0, .int .i64 0] 98)
      have HX := Lib.hid hX
      have HBX := Lib.hid hBX
      have HX0 := Lib.hid hX0
      obtain ⟨d0, d1, d2, d3, d4⟩ := HC.out X hBX
      clear hX hBX hXs hX0
      obtain ⟨o1, o2, o3⟩ := HOR.out
      simp only [Int.natCast_add, Int.natCast_mul, Int.cast_ofNat_Int] at o1 o2 o3
      have htu' : (V : Int) > 262144 ∨ (V : Int) ≤ 262144 := by omega
      rcases htu' with hv | hv
      · have HSV := Lib.hid (show F = .bad by rw [HSL.out, if_pos (.inl (by omega))])
        clear HSL htg htu htl
        rw [HSV.out]
        go_enter Try.func66, Try.ntmps66
        go_upto_region 1 with fail
        rw [HX.out]
        go_wp2
        go_quiet (fail)
        go_wp2_with (refine wpList_store_row rfl 98 (.tmp 2) (.tmp 46) rfl w.heap.size _ rfl rfl _ _ HX0.out (HIF.out _ rfl) rfl (by kernel_rfl) ?_)
        exact bodyPost_ret (results_row_tmp Try.results66 _ _ w.heap.size _ _ _ _ rfl (setRow_heap (X.drewN _) _ _ _ _ _ HX0.out) Try.underlying98 rfl (HIF.out _ rfl)) rfl ⟨rfl, HEND.out _ (X.drewN _) HX0.out (Below.drewN HBX.out _) _⟩
      · have hcl : (tk : Int) * 128 > (L : Int) ∨ (tk : Int) * 128 ≤ (L : Int) := by omega
        rcases hcl with hc | hc
        · have HSV := Lib.hid (show F = .bad by rw [HSL.out, if_pos (.inr (by omega))])
          clear HSL htl
          rw [HSV.out]
          go_enter Try.func66, Try.ntmps66
          go_upto_region 1 with fail
          rw [HX.out]
          go_wp2
          go_quiet (fail)
          go_wp2_with (first | (go_at_call 52; refine (HTK.out _).mono ?_; rintro e W ⟨rfl, rfl⟩) | refine wpList_store_row rfl 98 (.tmp 2) (.tmp 46) rfl w.heap.size _ rfl rfl _ _ HX0.out (HIF.out _ rfl) rfl (by kernel_rfl) ?_)
          exact bodyPost_ret (results_row_tmp Try.results66 _ _ w.heap.size _ _ _ _ rfl (setRow_heap (X.drewN _) _ _ _ _ _ HX0.out) Try.underlying98 rfl (HIF.out _ rfl)) rfl ⟨rfl, HEND.out _ (X.drewN _) HX0.out (Below.drewN HBX.out _) _⟩
        · have HTL := Lib.hid (htl (by omega))
          have HSV := Lib.hid (show F = .text tx by rw [HSL.out, if_neg (by omega)])
          clear HSL htl
          rw [HSV.out]
          rw [show foundV g off cap (.text tx) = #[.slice (some ⟨g, off + 5, none⟩) V (cap - 5), .int .i64 0] by simp only [foundV]; rw [HTL.out]]
          go_enter Try.func66, Try.ntmps66
          go_upto_region 1 with fail
          rw [HX.out]
          go_wp2
          go_quiet (fail)
          go_wp2_with (first | (go_at_call 52; refine (HTK.out _).mono ?_; rintro e W ⟨rfl, rfl⟩) | refine wpList_store_row rfl 98 (.tmp 2) (.tmp 51) rfl w.heap.size _ rfl rfl _ _ HX0.out (HIF.out _ rfl) rfl (by kernel_rfl) ?_)
          exact bodyPost_ret (results_row_tmp Try.results66 _ _ w.heap.size _ _ _ _ rfl (setRow_heap (X.drewN _) _ _ _ _ _ HX0.out) Try.underlying98 rfl (HIF.out _ rfl)) rfl ⟨rfl, HEND.out _ (X.drewN _) HX0.out (Below.drewN HBX.out _) _⟩
    · have HSV := Lib.hid (show F = .bad by rw [HSL.out, if_neg (fun h => he0 (hx0.1 h)), if_pos (fun h => he1 (hx1.1 h))])
      clear HSL hx0 hx1
      rw [HSV.out]
      go_enter Try.func66, Try.ntmps66
      go_upto_region 1 with fail
      obtain ⟨X, hX, hBX, hXs, hX0⟩ := alloc1 w (.cells #[.slice none 0 0, .int .i64 0] 98)
      rw [hX]
      have HBX := Lib.hid hBX
      have HX0 := Lib.hid hX0
      have d0 := (HC.out X hBX).1
      clear hX hBX hXs hX0
      go_wp2_with (refine wpList_store_row rfl 98 (.tmp 2) (.tmp 8) rfl w.heap.size _ rfl rfl _ _ HX0.out (HIF.out _ rfl) rfl (by kernel_rfl) ?_)
      exact bodyPost_ret (results_row_tmp Try.results66 _ _ w.heap.size _ _ _ _ rfl (setRow_heap _ _ _ _ _ _ HX0.out) Try.underlying98 rfl (HIF.out _ rfl)) rfl ⟨rfl, HEND.out _ X HX0.out HBX.out _⟩
end Go.Proofs.Ytdnjjemdnlegdaa
