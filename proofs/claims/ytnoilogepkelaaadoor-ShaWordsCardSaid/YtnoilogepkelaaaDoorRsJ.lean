/-
  The document's sha: Resume.
-/
import Derived.Test.YtnoilogepkelaaaDoorRsI
import Derived.Test.YtnoilogepkelaaaDoorShaG
namespace Go.Proofs.YtnoilogepkelaaaDoor
set_option linter.unusedVariables false
set_option linter.unusedSimpArgs false
open Go Go.RowKit
attribute [local go_sem] u32_add u32_sub u32_xor u32_or u32_and' u32_shl u32_shr

/-- What Resume holds between its rounds. -/
structure RRes (w : World) (O R : Nat) (h : List (BitVec 8)) (r : List (BitVec 32)) (wr : World) : Prop where
  eq : O = w.heap.size + 1 ∧ R = w.heap.size + 2
  in_ : wr.heap[w.heap.size]? = some (.cells (bytes h) 32 (0, 0))
  out : wr.heap[O]? = some (.cells (bytes (List.replicate 32 0)) 32 (0, 0))
  ring : wr.heap[R]? = some (.cells (words r) 26 (0, 0))
  below : Below w.heap.size w wr
theorem RRes.drew {w : World} {O R : Nat} {h : List (BitVec 8)} {r : List (BitVec 32)} {wr : World} (hi : RRes w O R h r wr) : RRes w O R h r wr.drew := ⟨hi.eq, hi.in_, hi.out, hi.ring, hi.below.drew⟩
theorem RRes.setR {w : World} {O R : Nat} {h : List (BitVec 8)} {r : List (BitVec 32)} {wr : World} (hi : RRes w O R h r wr) (p : Nat) (x : BitVec 32) : RRes w O R h (r.set p x) (wr.setCell ⟨R, p, none⟩ (.int .u32 (wv x))) := by
  have hl := hi.eq
  refine ⟨hi.eq, (heap_setCell_other _ _ _ _ (by simp; omega)).trans hi.in_, (heap_setCell_other _ _ _ _ (by simp; omega)).trans hi.out, ?_, hi.below.setCell (p := ⟨R, p, none⟩) (by simp; omega) _⟩
  have h2 := heap_setCell_same wr R p _ _ (.int .u32 (wv x)) hi.ring
  rwa [words_set] at h2

set_option maxRecDepth 100000 in
set_option maxHeartbeats 4000000 in
theorem rresume_err (h : List (BitVec 8)) (hh : h.length = 32) (n : Int) (hn : n < 0 ∨ 72057594037927936 < n) (v : Value) (w : World) :
    Calls Tryd.prog 38 #[.agg (bytes h), .int .i64 n, v] w fun e w' => e = .returned (.tuple #[.agg (bytes (List.replicate 32 0)), .int .i64 2]) ∧ Below w.heap.size w w' := by
  have HIH := Lib.hid (fun (xs : List (BitVec 8)) (h : xs.length = 32) => (show (Tryd.prog.info? 32).map (·.size) = some (bytes xs).size by rw [bytes_size, h]; kernel_rfl))
  obtain ⟨bb, hbb⟩ : ∃ bb, bytes h = bb := ⟨_, rfl⟩
  rw [hbb]
  obtain ⟨X, hX, hBX, hXs, hX0, hX1⟩ := alloc2 w (.cells bb 32) (.cells (bytes (List.replicate 32 0)) 32)
  have HX := Lib.hid (And.intro hX (And.intro hX1 hBX))
  clear hX hX1 hX0 hXs hBX hbb hh
  go_enter Tryd.func38, Tryd.ntmps38
  go_upto_region 1 with fail
  obtain ⟨Y, hY⟩ : ∃ Y, X = Y := ⟨_, rfl⟩
  have HX' : Hid (_ = Y) := Lib.hid (HX.out.1.trans hY)
  subst hY
  rw [show (w.alloc (.cells bb 32)).alloc (.cells #[.int .u8 0, .int .u8 0, .int .u8 0, .int .u8 0, .int .u8 0, .int .u8 0, .int .u8 0, .int .u8 0, .int .u8 0, .int .u8 0, .int .u8 0, .int .u8 0, .int .u8 0, .int .u8 0, .int .u8 0, .int .u8 0, .int .u8 0, .int .u8 0, .int .u8 0, .int .u8 0, .int .u8 0, .int .u8 0, .int .u8 0, .int .u8 0, .int .u8 0, .int .u8 0, .int .u8 0, .int .u8 0, .int .u8 0, .int .u8 0, .int .u8 0, .int .u8 0] 32) = X from HX'.out]
  clear HX'
  have HST : Hid (X.setRow (w.heap.size + 1) (bytes (List.replicate 32 0)) = X) := setRow_self _ _ _ _ _ HX.out.2.1
  have HI0 := Lib.hid (HIH.out (List.replicate 32 0) (by simp))
  by_cases h0 : n < 0
  all_goals
    go_wp2_with (refine wpList_store_row rfl 32 (.tmp 6) (.tmp 17) rfl (w.heap.size + 1) (bytes (List.replicate 32 0)) rfl rfl _ _ HX.out.2.1 HI0.out rfl (bytes_one _) ?_; rw [HST.out])
    exact bodyPost_ret (results_row_tmp Tryd.results38 _ _ (w.heap.size + 1) _ _ _ _ rfl HX.out.2.1 Tryd.underlying32 rfl HI0.out) rfl ⟨rfl, HX.out.2.2⟩

set_option maxRecDepth 100000 in
set_option maxHeartbeats 4000000 in
theorem rresume_any (h : List (BitVec 8)) (hh : h.length = 32) (n : Nat) (hn : n ≤ 72057594037927936) (b : List (BitVec 8)) (v : Value) (w : World) (hs : SlB w v b) (hl : b.length ≤ 50000000) :
    Calls Tryd.prog 38 #[.agg (bytes h), .int .i64 (n : Int), v] w fun e w' => e = .returned (.tuple #[.agg (bytes (Sha.resume h n b)), .int .i64 0]) ∧ Below w.heap.size w w' := by
  obtain ⟨a, cap, rfl⟩ := hs.len
  have HIH := Lib.hid (fun (xs : List (BitVec 8)) (h : xs.length = 32) => (show (Tryd.prog.info? 32).map (·.size) = some (bytes xs).size by rw [bytes_size, h]; kernel_rfl))
  have HIW := Lib.hid (fun (xs : List (BitVec 32)) (h : xs.length = 8) => (show (Tryd.prog.info? 26).map (·.size) = some (words xs).size by rw [words_size, h]; kernel_rfl))
  have HH := Lib.hid hh
  have HS := Lib.hid hs
  obtain ⟨bb, hbb⟩ : ∃ bb, bytes h = bb := ⟨_, rfl⟩
  rw [hbb]
  have HBB := Lib.hid hbb
  obtain ⟨lb, hlb⟩ : ∃ lb, b.length = lb := ⟨_, rfl⟩
  have HLB0 := Lib.hid hlb
  have hbl := Sha.behind_length n
  have hmp := Sha.many_pos n
  have HBW := Lib.hid (Sha.behind_whole n)
  have HB0 := Lib.hid (fun W => rbehind_any n (by omega) W)
  obtain ⟨m, hm⟩ : ∃ m, (Sha.behind n).length = m := ⟨_, rfl⟩
  rw [hm] at hbl HBW
  rw [hlb] at hl HS ⊢
  have HM := Lib.hid hm
  have hm72 : m ≤ 72 := by omega
  obtain ⟨N, hN⟩ : ∃ N, n + m + lb = N := ⟨_, rfl⟩
  have hNi : (n : Int) + (m : Int) + (lb : Int) = (N : Int) := by omega
  have hcong : (lb + (Sha.behind N).length) % 64 = 0 := by
    have h1 := Sha.behind_whole N
    have h2 := HBW.out
    omega
  have hbN := Sha.behind_length N
  have hmN := Sha.many_pos N
  have HBN := Lib.hid (fun W => rbehind_any N (by omega) W)
  rw [← hNi] at HBN
  have HLB := Lib.hid (show b.length + (Sha.behind N).length ≤ 500000000 by rw [hlb]; omega)
  have HL := Lib.hid hl
  have HFO := Lib.hid (fun v5 w5 (h5 : SlB w5 v5 (b ++ Sha.behind N)) => rfold_any (Sha.words h) (b ++ Sha.behind N) (Sha.words_length h) (by rw [List.length_append, hlb]; exact hcong) (by rw [List.length_append, hlb]; omega) v5 w5 h5)
  have HTO := Lib.hid (fun W => rtold_any (Sha.fold (Sha.words h) (b ++ Sha.behind N)) (Sha.foldN_length _ _ _ (Sha.words_length h)) W)
  have hres : Sha.told (Sha.fold (Sha.words h) (b ++ Sha.behind N)) = Sha.resume h n b := by rw [Sha.resume, hm, hlb, hN]
  have HRL := Lib.hid (show (Sha.resume h n b).length = 32 by rw [← hres]; exact Sha.told_length _)
  rw [hres] at HTO
  obtain ⟨RES, hRES⟩ : ∃ RES, Sha.resume h n b = RES := ⟨_, rfl⟩
  rw [hRES] at HTO HRL ⊢
  have HWL := Lib.hid (Sha.words_length h)
  have HPA := Lib.hid (show Sha.pringN 8 h 32 = Sha.words h from Sha.pringN_all 8 h)
  have HNI := Lib.hid hNi
  clear hbb hh hs hlb hbl hmp hm hN hcong hbN hmN hres hRES hNi
  go_enter Tryd.func38, Tryd.ntmps38
  go_upto_region 4 with fail
  obtain ⟨X, hX, hBX, hXs, hX0, hX1, hX2⟩ := alloc3 w (.cells bb 32) (.cells (bytes (List.replicate 32 0)) 32) (.cells (words (List.replicate 8 0)) 26)
  rw [show ((w.alloc (.cells bb 32)).alloc (.cells #[.int .u8 0, .int .u8 0, .int .u8 0, .int .u8 0, .int .u8 0, .int .u8 0, .int .u8 0, .int .u8 0, .int .u8 0, .int .u8 0, .int .u8 0, .int .u8 0, .int .u8 0, .int .u8 0, .int .u8 0, .int .u8 0, .int .u8 0, .int .u8 0, .int .u8 0, .int .u8 0, .int .u8 0, .int .u8 0, .int .u8 0, .int .u8 0, .int .u8 0, .int .u8 0, .int .u8 0, .int .u8 0, .int .u8 0, .int .u8 0, .int .u8 0, .int .u8 0] 32)).alloc (.cells #[.int .u32 0, .int .u32 0, .int .u32 0, .int .u32 0, .int .u32 0, .int .u32 0, .int .u32 0, .int .u32 0] 26) = X from hX]
  have HI := Lib.hid (show RRes w (w.heap.size + 1) (w.heap.size + 1 + 1) h (Sha.pringN 8 h 0) X from ⟨⟨rfl, rfl⟩, by rw [HBB.out]; exact hX0, hX1, by rw [Sha.pringN_zero]; exact hX2, hBX⟩)
  clear hX hBX hXs hX0 hX1 hX2
  generalize w.heap.size + 1 + 1 = R at *
  generalize w.heap.size + 1 = O at *
  go_wp2
  go_loopw [9] (fun s wr => ∃ i : Nat, i ≤ 32 ∧ s = .int .i64 i ∧ Hid (RRes w O R h (Sha.pringN 8 h i) wr)) (fun s _ => 32 - (intOf s).toNat)
  case atStart => exact ⟨0, by omega, rfl, HI⟩
  case round =>
    clear HI
    obtain ⟨i, hi, rfl, HI⟩ := hrel
    by_cases hlt : i < 32
    · have hn := HI.out.setR (i / 4) ((Sha.pringN 8 h i).getD (i / 4) 0 <<< 8 ||| (h.getD i 0).setWidth 32)
      rw [← Sha.pringN_succ 8 h i hlt] at hn
      have c0 := (cell_of_row wr w.heap.size i _ _ _ HI.out.in_).trans (bytes_get? h i (by rw [HH.out]; exact hlt))
      have cr := (cell_of_row wr R (i / 4) _ _ _ HI.out.ring).trans (words_get? _ (i / 4) (by rw [Sha.pringN_length]; omega))
      have fr := frozen_of_row wr R (i / 4) _ _ HI.out.ring
      generalize (Sha.pringN 8 h i).getD (i / 4) 0 = x at cr hn
      generalize h.getD i 0 = y at c0 hn
      have HN := Lib.hid hn
      obtain ⟨q, hq, hq16⟩ : ∃ q : Nat, i / 4 = q ∧ q < 8 := ⟨_, rfl, by omega⟩
      have hqi : (i : Int) / 4 = q := by omega
      have hq8 : (q : Int) < 8 := by omega
      have hi32 : (i : Int) < 32 := by omega
      have wq : IntKind.i64.wrap (q : Int) = q := by rw [IntKind.wrap_i64]; omega
      rw [hq] at cr fr HN
      have m1 := Rsh.mul256 x
      have m2 := Rsh.add8 x y
      have m3 : IntKind.u32.wrap ((256 : Int) * wv x) = wv (x <<< 8) := by rw [wrap_u32_mod]; exact m1
      have m4 : IntKind.u32.wrap (wv (x <<< 8) + wv (y.setWidth 32)) = wv (x <<< 8 ||| y.setWidth 32) := by rw [wrap_u32_mod]; exact m2
      have hy : bv y = wv (y.setWidth 32) := by rw [← u8_to_u32, wrap_u32_mod]; have := bv_nonneg y; have := bv_lt y; omega
      have hyw : wv (y.setWidth 32) % (4294967296 : Int) = wv (y.setWidth 32) := Int.emod_eq_of_lt (wv_nonneg _) (wv_lt _)
      have hRw : ¬ R = w.heap.size := by have := HI.out.eq; omega
      clear hn hq
      go_upto_region 7 with fail
      go_still_tail 13, (by kernel_rfl)
      go_wp2
      exact ⟨⟨i + 1, by omega, by go_num, HN.out.drew⟩, by simp [intOf]; omega⟩
    · obtain rfl : i = 32 := by omega
      rw [HPA.out] at HI
      have HEs := Lib.hid HI.out.eq
      have hsz := HI.out.below.size
      have HSX := Lib.hid (HS.out.below HI.out.below (Nat.le_refl _))
      have HOR := Lib.hid (show ∀ W, Below wr.heap.size wr W → W.heap[O]? = some (.cells (bytes (List.replicate 32 0)) 32 (0, 0)) from fun W h => (h.block _ (Array.getElem?_eq_some_iff.1 HI.out.out).1).trans HI.out.out)
      have HRR := Lib.hid (show ∀ W, Below wr.heap.size wr W → W.heap[R]? = some (.cells (words (Sha.words h)) 26 (0, 0)) from fun W h => (h.block _ (Array.getElem?_eq_some_iff.1 HI.out.ring).1).trans HI.out.ring)
      go_upto_region 11 with (first
        | (at_builtin; refine wpList_append_b rfl (.tmp 35) (.tmp 36) 22 5 rfl Tryd.underlying22 info_u8 wr.heap.size (.slice none 0 0) [] (OwnB.nil _ _ _) rfl _ b HSX.out rfl (by have := HL.out; have := HLB0.out; simp; omega) (Nat.le_refl _) ?_; intro v2 w1 ho hg hn'; have HO1 := Lib.hid ho; have HB1 := Lib.hid ((Below.refl wr.heap.size wr).grown hg (Nat.le_refl _) (fun k e => by cases e)); clear ho hg hn')
        | (go_at_call 32; (with_reducible refine Calls.mono (HB0.out _) ?_); rintro e w2 ⟨v3, rfl, ho, hb⟩; obtain ⟨a0, cap0, rfl⟩ := ho.sl.len; rw [HM.out]; have HO1b := Lib.hid (HO1.out.below hb (Nat.le_refl _)); have HB2 := Lib.hid (HB1.out.trans (hb.mono HB1.out.size)); clear ho hb)
        | (go_at_call 32; (with_reducible refine Calls.mono (HBN.out _) ?_); rintro e w3 ⟨v4, rfl, ho, hb⟩; have HO2 := Lib.hid ho.sl; have HO1c := Lib.hid (HO1b.out.below hb (Nat.le_refl _)); have HB3 := Lib.hid (HB2.out.trans (hb.mono HB2.out.size)); clear ho hb)
        | (at_builtin; refine wpList_append_b rfl (.tmp 38) (.tmp 47) 22 5 rfl Tryd.underlying22 info_u8 wr.heap.size _ _ HO1c.out rfl _ _ HO2.out rfl (by have := HLB.out; simp; omega) HB3.out.size ?_; intro v5 w4 ho hg hn'; have HO3 := Lib.hid ho; have HB4 := Lib.hid (HB3.out.grown hg HB3.out.size (fun k e => (World.ownsRow.lt HO1c.out k e).1)); clear ho hg hn'))
      rw [List.nil_append] at HO3
      have HR4 := Lib.hid (HRR.out _ HB4.out)
      go_wp2_with (first
        | (refine wpList_load_row rfl 26 (.tmp 8) rfl R rfl _ _ _ _ HR4.out Tryd.underlying26 rfl (HIW.out _ HWL.out) ?_)
        | (go_at_call 70; go_loud (refine (HFO.out _ _ HO3.out.sl).mono ?_; rintro e w5 ⟨rfl, hb⟩; have HB5 := Lib.hid (HB4.out.trans (hb.mono HB4.out.size)); clear hb))
        | (go_at_call 69; go_loud (refine (HTO.out _).mono ?_; rintro e w6 ⟨rfl, hb⟩; have HB6 := Lib.hid (HB5.out.trans (hb.mono HB5.out.size)); have HO6 := Lib.hid (HOR.out _ (HB5.out.trans (hb.mono HB5.out.size))); clear hb))
        | (refine wpList_store_row rfl 32 (.tmp 6) (.tmp 52) rfl O _ rfl rfl _ _ HO6.out (HIH.out _ HRL.out) (by rw [bytes_size, bytes_size, HRL.out]; rfl) (bytes_one _) ?_))
      have hb2 := HI.out.below.trans (HB6.out.mono hsz)
      exact bodyPost_ret (results_row_tmp Tryd.results38 _ _ O _ _ _ _ rfl (setRow_heap _ _ _ _ _ _ HO6.out) Tryd.underlying32 rfl (HIH.out _ HRL.out)) rfl ⟨rfl, hb2.trans (((Kept.refl [O] w6).setRow (by simp) _).toBelow (B := w.heap.size) (by have := HEs.out; simp; omega) hb2.size)⟩
end Go.Proofs.YtnoilogepkelaaaDoor
