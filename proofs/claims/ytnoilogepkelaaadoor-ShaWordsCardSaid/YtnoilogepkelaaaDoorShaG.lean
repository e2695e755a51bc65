/-
  sha.Resume: a digest gone on from.
-/
import Derived.Test.YtnoilogepkelaaaDoorShaD
import Derived.Test.YtnoilogepkelaaaDoorShaP
import Derived.Deep.DeepCutAuto
namespace Go.Proofs.YtnoilogepkelaaaDoor
set_option linter.unusedVariables false
set_option linter.unusedSimpArgs false
open Go Go.RowKit
attribute [local go_sem] u32_add u32_sub u32_xor u32_or u32_and' u32_shl u32_shr
namespace Sha
/-- m words of which i bytes have come. -/
def pringN (m : Nat) (b : List (BitVec 8)) (i : Nat) : List (BitVec 32) := (List.range m).map fun p => pw b p (min 4 (i - 4 * p))
theorem pringN_length (m : Nat) (b : List (BitVec 8)) (i : Nat) : (pringN m b i).length = m := by simp [pringN]
theorem pringN_zero (m : Nat) (b : List (BitVec 8)) : pringN m b 0 = List.replicate m 0 := by
  have : ∀ p, pw b p (min 4 (0 - 4 * p)) = 0 := fun p => by rw [show min 4 (0 - 4 * p) = 0 by omega]; rfl
  simp only [pringN, this, List.map_const', List.length_range]
theorem pringN_all (m : Nat) (b : List (BitVec 8)) : pringN m b (4 * m) = (List.range m).map (wordAt b) := by
  simp only [pringN]
  apply List.map_congr_left
  intro p hp
  have := List.mem_range.1 hp
  rw [show min 4 (4 * m - 4 * p) = 4 by omega, pw_four]
theorem pringN_getD (m : Nat) (b : List (BitVec 8)) (i p : Nat) (h : p < m) : (pringN m b i).getD p 0 = pw b p (min 4 (i - 4 * p)) := by simp [pringN, List.getD, h]
theorem pringN_succ (m : Nat) (b : List (BitVec 8)) (i : Nat) (h : i < 4 * m) : pringN m b (i + 1) = (pringN m b i).set (i / 4) ((pringN m b i).getD (i / 4) 0 <<< 8 ||| (b.getD i 0).setWidth 32) := by
  apply List.ext_getElem?
  intro p
  by_cases hp : p < m
  · rw [List.getElem?_set]
    have hl : (pringN m b i).length = m := pringN_length m b i
    by_cases e : i / 4 = p
    · rw [if_pos e, if_pos (by omega)]
      subst e
      rw [pringN_getD m b i _ hp]
      simp only [pringN, List.getElem?_map, List.getElem?_range hp, Option.map_some]
      rw [show min 4 (i + 1 - 4 * (i / 4)) = min 4 (i - 4 * (i / 4)) + 1 by omega, pw, show 4 * (i / 4) + min 4 (i - 4 * (i / 4)) = i by omega]
    · rw [if_neg e]
      simp only [pringN, List.getElem?_map, List.getElem?_range hp, Option.map_some]
      rw [show min 4 (i + 1 - 4 * p) = min 4 (i - 4 * p) by omega]
  · rw [List.getElem?_eq_none (by rw [pringN_length]; omega), List.getElem?_eq_none (by rw [List.length_set, pringN_length]; omega)]
end Sha
theorem results_row_tmp {P : Program} {fn : Func} {p u : Tmp} {ty : TypeId} (h : fn.results = #[.cell p ty, .tmp u]) (tmps : Array Value) (w : World) (g : Nat) (t : TypeId) (cs : Array Value) (fr : Nat × Nat) (d : TypeDesc)
    (hp : tmps.getD p undef = .pointer (some ⟨g, 0, none⟩)) (hg : w.heap[g]? = some (.cells cs t fr))
    (hu : P.underlying ty = some d) (hd : (match d with | .struct _ | .array _ _ => true | _ => false) = true) (hi : (P.info? ty).map (·.size) = some cs.size) :
    (results fn tmps).run P w = .ok (.tuple #[.agg cs, tmps.getD u undef]) w := by
  have hp' : tmps[p]?.getD undef = .pointer (some ⟨g, 0, none⟩) := by simpa using hp
  simp [results, h, hp', asAddr, run_loadVar_row w g t ty cs fr d hg hu hd hi]

/-- What Resume holds between its rounds. -/
structure ResI (w : World) (O R : Nat) (h : List (BitVec 8)) (r : List (BitVec 32)) (wr : World) : Prop where
  eq : O = w.heap.size + 1 ∧ R = w.heap.size + 2
  out : wr.heap[O]? = some (.cells (bytes (List.replicate 32 0)) 32 (0, 0))
  ring : wr.heap[R]? = some (.cells (words r) 27 (0, 0))
  below : Below w.heap.size w wr
theorem ResI.setR {w : World} {O R : Nat} {h : List (BitVec 8)} {r : List (BitVec 32)} {wr : World} (hi : ResI w O R h r wr) (p : Nat) (x : BitVec 32) : ResI w O R h (r.set p x) (wr.setCell ⟨R, p, none⟩ (.int .u32 (wv x))) := by
  have hl := hi.eq
  refine ⟨hi.eq, (heap_setCell_other _ _ _ _ (by simp; omega)).trans hi.out, ?_, hi.below.setCell (p := ⟨R, p, none⟩) (by simp; omega) _⟩
  have h2 := heap_setCell_same wr R p _ _ (.int .u32 (wv x)) hi.ring
  rwa [words_set] at h2

set_option maxRecDepth 100000 in
set_option maxHeartbeats 4000000 in
theorem resume_err (h : List (BitVec 8)) (hh : h.length = 32) (n : Int) (hn : n < 0 ∨ 72057594037927936 < n) (v : Value) (w : World) :
    Calls Tryd.prog 29 #[.agg (bytes h), .int .i64 n, v] w fun e w' => e = .returned (.tuple #[.agg (bytes (List.replicate 32 0)), .int .i64 2]) ∧ Below w.heap.size w w' := by
  have HIH := Lib.hid (fun (xs : List (BitVec 8)) (h : xs.length = 32) => (show (Tryd.prog.info? 32).map (·.size) = some (bytes xs).size by rw [bytes_size, h]; kernel_rfl))
  obtain ⟨bb, hbb⟩ : ∃ bb, bytes h = bb := ⟨_, rfl⟩
  rw [hbb]
  obtain ⟨X, hX, hBX, hXs, hX0, hX1⟩ := alloc2 w (.cells bb 32) (.cells (bytes (List.replicate 32 0)) 32)
  have HX := Lib.hid (And.intro hX (And.intro hX1 hBX))
  clear hX hX1 hX0 hXs hBX hbb hh
  go_enter Tryd.func29, Tryd.ntmps29
  go_upto_region 1 with fail
  obtain ⟨Y, hY⟩ : ∃ Y, X = Y := ⟨_, rfl⟩
  have HX' : Hid (_ = Y) := Lib.hid (HX.out.1.trans hY)
  subst hY
  rw [show (w.alloc (.cells bb 32)).alloc (.cells #[.int .u8 0, .int .u8 0, .int .u8 0, .int .u8 0, .int .u8 0, .int .u8 0, .int .u8 0, .int .u8 0, .int .u8 0, .int .u8 0, .int .u8 0, .int .u8 0, .int .u8 0, .int .u8 0, .int .u8 0, .int .u8 0, .int .u8 0, .int .u8 0, .int .u8 0, .int .u8 0, .int .u8 0, .int .u8 0, .int .u8 0, .int .u8 0, .int .u8 0, .int .u8 0, .int .u8 0, .int .u8 0, .int .u8 0, .int .u8 0, .int .u8 0, .int .u8 0] 32) = X from HX.out.1]
  clear HX'
  have HST : Hid (X.setRow (w.heap.size + 1) (bytes (List.replicate 32 0)) = X) := setRow_self _ _ _ _ _ HX.out.2.1
  have HI0 := Lib.hid (HIH.out (List.replicate 32 0) (by simp))
  by_cases h0 : n < 0
  all_goals
    go_wp2_with (refine wpList_store_row rfl 32 (.tmp 6) (.tmp 18) rfl (w.heap.size + 1) (bytes (List.replicate 32 0)) rfl rfl _ _ HX.out.2.1 HI0.out rfl (bytes_one _) ?_; rw [HST.out])
    exact bodyPost_ret (results_row_tmp Tryd.results29 _ _ (w.heap.size + 1) _ _ _ _ rfl HX.out.2.1 Tryd.underlying32 rfl HI0.out) rfl ⟨rfl, HX.out.2.2⟩

set_option maxRecDepth 100000 in
set_option maxHeartbeats 4000000 in
theorem resume_any (h : List (BitVec 8)) (hh : h.length = 32) (n : Nat) (hn : n ≤ 72057594037927936) (b : List (BitVec 8)) (v : Value) (w : World) (hs : SlB w v b) (hl : b.length ≤ 50000000) (hG : Glob w) :
    Calls Tryd.prog 29 #[.agg (bytes h), .int .i64 (n : Int), v] w fun e w' => e = .returned (.tuple #[.agg (bytes (Sha.resume h n b)), .int .i64 0]) ∧ Below w.heap.size w w' := by
  obtain ⟨a, cap, rfl⟩ := hs.len
  have hsz := hG.size
  have HN := Lib.hid hn
  have HL := Lib.hid hl
  have HIH := Lib.hid (fun (xs : List (BitVec 8)) (h : xs.length = 32) => (show (Tryd.prog.info? 32).map (·.size) = some (bytes xs).size by rw [bytes_size, h]; kernel_rfl))
  have hix := fun (i : Nat) (hi : i < 32) => run_index_row (P := Tryd.prog) (T := 32) (E := 5) Tryd.underlying32 Tryd.underlying5 rfl (by kernel_rfl) (bytes h) (by rw [bytes_size]; exact hh) (i : Int) (by omega) (by omega)
  have HIX := Lib.hid hix
  have HIB := HIH.out h hh
  have HH := Lib.hid hh
  obtain ⟨bb, hbb⟩ : ∃ bb, bytes h = bb := ⟨_, rfl⟩
  rw [hbb] at HIX HIB ⊢
  have HBB := Lib.hid hbb
  have HIB := Lib.hid HIB
  clear hix hbb hh
  go_enter Tryd.func29, Tryd.ntmps29
  go_upto_region 4 with fail
  obtain ⟨X, hX, hBX, hXs, hX0, hX1, hX2⟩ := alloc3 w (.cells bb 32) (.cells (bytes (List.replicate 32 0)) 32) (.cells (words (List.replicate 8 0)) 27)
  rw [show ((w.alloc (.cells bb 32)).alloc (.cells #[.int .u8 0, .int .u8 0, .int .u8 0, .int .u8 0, .int .u8 0, .int .u8 0, .int .u8 0, .int .u8 0, .int .u8 0, .int .u8 0, .int .u8 0, .int .u8 0, .int .u8 0, .int .u8 0, .int .u8 0, .int .u8 0, .int .u8 0, .int .u8 0, .int .u8 0, .int .u8 0, .int .u8 0, .int .u8 0, .int .u8 0, .int .u8 0, .int .u8 0, .int .u8 0, .int .u8 0, .int .u8 0, .int .u8 0, .int .u8 0, .int .u8 0, .int .u8 0] 32)).alloc (.cells #[.int .u32 0, .int .u32 0, .int .u32 0, .int .u32 0, .int .u32 0, .int .u32 0, .int .u32 0, .int .u32 0] 27) = X from hX]
  have hI : ResI w (w.heap.size + 1) (w.heap.size + 1 + 1) h (Sha.pringN 8 h 0) X := ⟨⟨rfl, rfl⟩, hX1, by rw [Sha.pringN_zero]; exact hX2, hBX⟩
  have HI := Lib.hid hI
  have HBK := Lib.hid hX0
  have HS := Lib.hid hs
  have HG := Lib.hid hG
  clear hI hX hBX hXs hX0 hX1 hX2 hs hG
  generalize w.heap.size + 1 + 1 = R at *
  generalize w.heap.size + 1 = O at *
  go_upto_region 5 with (refine wpList_load_row rfl 32 (.tmp 3) rfl w.heap.size rfl _ _ _ _ HBK.out Tryd.underlying32 rfl HIB.out ?_)
  clear HBK HIB
  go_loopw [20] (fun s wr => ∃ i : Nat, i ≤ 32 ∧ s = .int .i64 i ∧ Hid (ResI w O R h (Sha.pringN 8 h i) wr)) (fun s _ => 32 - (intOf s).toNat)
  case atStart => exact ⟨0, by omega, rfl, HI⟩
  case round =>
    clear HI
    obtain ⟨i, hi, rfl, HI⟩ := hrel
    by_cases hlt : i < 32
    · have hx := fun (W : World) => HIX.out i hlt W
      rw [← HBB.out, Int.toNat_natCast, Array.getD_eq_getD_getElem?, bytes_get? h i (by rw [HH.out]; exact hlt), Option.getD_some, HBB.out] at hx
      have hn := HI.out.setR (i / 4) ((Sha.pringN 8 h i).getD (i / 4) 0 <<< 8 ||| (h.getD i 0).setWidth 32)
      rw [← Sha.pringN_succ 8 h i hlt] at hn
      have cr := (cell_of_row wr R (i / 4) _ _ _ HI.out.ring).trans (words_get? _ (i / 4) (by rw [Sha.pringN_length]; omega))
      have fr := frozen_of_row wr R (i / 4) _ _ HI.out.ring
      generalize (Sha.pringN 8 h i).getD (i / 4) 0 = x at cr hn
      generalize h.getD i 0 = y at hx hn
      have HN := Lib.hid hn
      obtain ⟨q, hq, hq16⟩ : ∃ q : Nat, i / 4 = q ∧ q < 8 := ⟨_, rfl, by omega⟩
      have hqi : (i : Int) / 4 = q := by omega
      rw [hq] at cr fr HN
      have hy : bv y = wv (y.setWidth 32) := by rw [← u8_to_u32, wrap_u32_mod]; have := bv_nonneg y; have := bv_lt y; omega
      have hs8 : wv x * (256 : Int) % (4294967296 : Int) = wv (x <<< 8) := by rw [← wrap_u32_mod]; exact u32_shl8 x
      have hyw : wv (y.setWidth 32) % (4294967296 : Int) = wv (y.setWidth 32) := Int.emod_eq_of_lt (wv_nonneg _) (wv_lt _)
      clear hn hq
      go_wp2
      exact ⟨⟨i + 1, by omega, by go_num, HN⟩, by simp [intOf]; omega⟩
    · obtain rfl : i = 32 := by omega
      rw [show 32 = 4 * 8 from rfl, Sha.pringN_all] at HI
      have HIR : Hid (ResI w O R h (Sha.words h) wr) := HI
      have heq := HI.out.eq
      have HE := Lib.hid (And.intro heq.1 (And.intro heq.2 hsz))
      have HB0 := Lib.hid (behind_any n (by omega) wr)
      have hbl := Sha.behind_length n
      have hmp := Sha.many_pos n
      have HBW := Lib.hid (Sha.behind_whole n)
      obtain ⟨m, hm⟩ : ∃ m, (Sha.behind n).length = m := ⟨_, rfl⟩
      rw [hm] at hbl HBW
      have HM := Lib.hid hm
      have hm72 : m ≤ 72 := by omega
      obtain ⟨N, hN⟩ : ∃ N, n + m + b.length = N := ⟨_, rfl⟩
      obtain ⟨lb, hlb⟩ : ∃ lb, b.length = lb := ⟨_, rfl⟩
      have HLB0 := Lib.hid hlb
      rw [hlb] at hN hl HL HS ⊢
      clear HI heq hbl hmp hm HIX HBB hlb
      go_upto_region 10 with (go_at_call 24; refine HB0.out.mono ?_; rintro e X ⟨v0, rfl, ho0, hb0⟩; obtain ⟨a0, cap0, rfl⟩ := ho0.sl.len; rw [HM.out]; have HBX := Lib.hid hb0; clear ho0 hb0)
      rw [show ((n : Int) + (m : Int) + (lb : Int)) = ((N : Nat) : Int) by omega]
      have hRX : X.heap[R]? = some (.cells (words (Sha.words h)) 27 (0, 0)) := (HBX.out.block _ (Array.getElem?_eq_some_iff.1 HIR.out.ring).1).trans HIR.out.ring
      have hOX : X.heap[O]? = some (.cells (bytes (List.replicate 32 0)) 32 (0, 0)) := (HBX.out.block _ (Array.getElem?_eq_some_iff.1 HIR.out.out).1).trans HIR.out.out
      have hRs := (Array.getElem?_eq_some_iff.1 hRX).1
      have hOs := (Array.getElem?_eq_some_iff.1 hOX).1
      have hbX : Below w.heap.size w X := HIR.out.below.trans (HBX.out.mono HIR.out.below.size)
      have hEs := HE.out
      have hcong : (lb + (Sha.behind N).length) % 64 = 0 := by
        have h1 := Sha.behind_whole N
        have h2 := HBW.out
        omega
      have hbN := Sha.behind_length N
      have hmN := Sha.many_pos N
      have HBH := Lib.hid (fun W => behind_any N (by omega) W)
      have HLB := Lib.hid (show b.length + (Sha.behind N).length ≤ 500000000 by rw [HLB0.out]; omega)
      have HFO := Lib.hid (fun v5 w5 h5 hg => fold_any (Sha.words h) (Sha.words_length h) (b ++ Sha.behind N) v5 w5 h5 (by rw [List.length_append, HLB0.out]; omega) (by rw [List.length_append, HLB0.out]; omega) (by rw [List.length_append, HLB0.out]; exact hcong) hg)
      have HTO := Lib.hid (fun W => told_any (Sha.fold (Sha.words h) (b ++ Sha.behind N)) (Sha.foldN_length _ _ _ (Sha.words_length h)) W)
      have HIT := Lib.hid (show (Tryd.prog.info? 27).map (·.size) = some (words (Sha.words h)).toList.length by rw [Array.length_toList, words_size, Sha.words_length]; kernel_rfl)
      have HRN := Lib.hid (fun W (hW : Below X.heap.size X W) => rng_below (rng_of_row X R _ _ _ hRX) hW hRs)
      have HGX := Lib.hid (fun W (hW : Below X.heap.size X W) => (HG.out.below hbX hEs.2.2).below hW (by have := hbX.size; omega))
      have HSV := Lib.hid (fun W (hW : Below X.heap.size X W) => (HS.out.below hbX (Nat.le_refl _)).below hW (Nat.le_refl _))
      have hres : Sha.told (Sha.fold (Sha.words h) (b ++ Sha.behind N)) = Sha.resume h n b := by rw [Sha.resume, HM.out, HLB0.out, hN]
      have HRL := Lib.hid (show (Sha.resume h n b).length = 32 by rw [← hres]; exact Sha.told_length _)
      have HRE := Lib.hid hres
      have HOU := Lib.hid (fun W (hW : Below X.heap.size X W) => (show (storeVar 32 ⟨O, 0, none⟩ (.agg (bytes (Sha.told (Sha.fold (Sha.words h) (b ++ Sha.behind N)))))).run Tryd.prog W = .ok () (W.setRow O (bytes (Sha.resume h n b))) ∧
          (W.setRow O (bytes (Sha.resume h n b))).rangeAt R 0 (words (Sha.words h)).toList ∧ Below w.heap.size w (W.setRow O (bytes (Sha.resume h n b))) ∧ (W.setRow O (bytes (Sha.resume h n b))).heap[O]? = some (.cells (bytes (Sha.resume h n b)) 32 (0, 0)) by
        rw [hres]
        have h1 := (hW.block O hOs).trans hOX
        have h2 := (hW.block R hRs).trans hRX
        refine ⟨run_storeVar_row W O _ _ _ _ h1 (HIH.out _ HRL.out) (by rw [bytes_size, bytes_size, HRL.out]; rfl) (bytes_one _), rng_of_row _ R _ _ _ ((setRow_other _ _ _ _ (by omega)).trans h2), ?_, setRow_heap _ _ _ _ _ _ h1⟩
        exact (hbX.trans (hW.mono hbX.size)).trans (((Kept.refl [O] W).setRow (by simp) _).toBelow (B := w.heap.size) (by simp; omega) (by have := hW.size; have := hbX.size; omega))))
      clear hRX hOX hRs hOs hbX hEs hcong hbN hmN hres
      -- RESUME BEGIN
      refine wp_region_held_drew (S := fun w' => w'.rangeAt R 0 (words (Sha.words h)).toList) (by kernel_rfl) (HRN.out X.drew (Below.refl _ _).drew) (fun hHeld => ?_)
      refine wpAnyH_take (i := 0) rfl (by kernel_rfl) (by kernel_rfl) (by kernel_rfl) (fun _ _ _ h => h) (yieldsIf_load_mid (by rfl) 27 (.tmp 8) rfl _ _ rfl (words (Sha.words h)).toList _ (fun _ h => h) Tryd.underlying27 rfl HIT.out) (by assumption) ?_
      try simp only [List.getElem_toArray, List.getElem_cons_zero, List.getElem_cons_succ, Act.put, List.setIfInBounds_toArray, List.set_cons_zero, List.set_cons_succ]
      refine wpAnyH_take (i := 1) (v := ?v4) rfl (by kernel_rfl) (by kernel_rfl) (by kernel_rfl) (fun _ _ _ h => h) (Or.inl ⟨by rfl, ?y4⟩) (by assumption) ?r4
      case y4 =>
        intro w' hSw
        go_split_ands
        go_simp
        try with_reducible rfl
      try simp only [List.getElem_toArray, List.getElem_cons_zero, List.getElem_cons_succ, Act.put, List.setIfInBounds_toArray, List.set_cons_zero, List.set_cons_succ]
      refine wpAnyH_take (i := 2) (v := ?v5) rfl (by kernel_rfl) (by kernel_rfl) (by kernel_rfl) (fun _ _ _ h => h) (Or.inl ⟨by rfl, ?y5⟩) (by assumption) ?r5
      case y5 =>
        intro w' hSw
        go_split_ands
        go_simp
        try with_reducible rfl
      try simp only [List.getElem_toArray, List.getElem_cons_zero, List.getElem_cons_succ, Act.put, List.setIfInBounds_toArray, List.set_cons_zero, List.set_cons_succ]
      refine wpAnyH_ready (rs := [3]) (by kernel_rfl) (by simp) ?_
      refine AllReadyH.cons (i := 3) rfl (fun K hK => ?_) AllReadyH.nil
      go_simp
      go_at_call 24
      refine (HBH.out X.drew).mono ?_
      rintro e w3 ⟨v3, rfl, ho3, hb3⟩
      obtain ⟨a3, cap3, rfl⟩ := ho3.sl.len
      have HO3 := Lib.hid ho3
      have HB3 := Lib.hid (show Below X.heap.size X w3 from (Below.refl _ X).drew.trans hb3)
      clear ho3 hb3
      refine hK.out _ _ (HRN.out _ HB3.out) (fun hHeld' => ?_)
      clear hHeld hK K
      have hHeld := hHeld'
      clear hHeld'
      try simp only [List.getElem_toArray, List.getElem_cons_zero, List.getElem_cons_succ, Act.put, List.setIfInBounds_toArray, List.set_cons_zero, List.set_cons_succ]
      refine wpAnyH_ready (rs := [4]) (by kernel_rfl) (by simp) ?_
      refine AllReadyH.cons (i := 4) rfl (fun K hK => ?_) AllReadyH.nil
      go_simp
      refine hK.out _ _ (HRN.out _ (HB3.out.alloc HB3.out.size _)) (fun hHeld' => ?_)
      clear hHeld hK K
      have hHeld := hHeld'
      clear hHeld'
      try simp only [List.getElem_toArray, List.getElem_cons_zero, List.getElem_cons_succ, Act.put, List.setIfInBounds_toArray, List.set_cons_zero, List.set_cons_succ]
      have HB4 := Lib.hid (HB3.out.alloc HB3.out.size (.cells #[.slice a lb cap, .slice a3 (Sha.behind N).length cap3] 22))
      have HCC := Lib.hid (concat2 (w3.alloc (.cells #[.slice a lb cap, .slice a3 (Sha.behind N).length cap3] 22)) w3.heap.size _ _ _ _ _ _ (heap_alloc_new _ _) ((HSV.out w3 HB3.out).alloc _) (HO3.out.sl.alloc _) HLB.out)
      refine wpAnyH_ready (rs := [5]) (by kernel_rfl) (by simp) ?_
      refine AllReadyH.cons (i := 5) rfl (fun K hK => ?_) AllReadyH.nil
      go_simp
      go_at_call 63
      refine (HCC.out).mono ?_
      rintro e w5 ⟨v5, rfl, ho5, hb5⟩
      have HO5 := Lib.hid ho5
      have HB5 := Lib.hid (HB4.out.trans (hb5.mono HB4.out.size))
      clear ho5 hb5 HCC
      refine hK.out _ _ (HRN.out _ HB5.out) (fun hHeld' => ?_)
      clear hHeld hK K
      have hHeld := hHeld'
      clear hHeld'
      try simp only [List.getElem_toArray, List.getElem_cons_zero, List.getElem_cons_succ, Act.put, List.setIfInBounds_toArray, List.set_cons_zero, List.set_cons_succ]
      refine wpAnyH_ready (rs := [6]) (by kernel_rfl) (by simp) ?_
      refine AllReadyH.cons (i := 6) rfl (fun K hK => ?_) AllReadyH.nil
      go_simp
      go_at_call 62
      refine (HFO.out _ w5 HO5.out.sl (HGX.out _ HB5.out)).mono ?_
      rintro e w6 ⟨rfl, hb6⟩
      have HB6 := Lib.hid (HB5.out.trans (hb6.mono HB5.out.size))
      clear hb6
      refine hK.out _ _ (HRN.out _ HB6.out) (fun hHeld' => ?_)
      clear hHeld hK K
      have hHeld := hHeld'
      clear hHeld'
      try simp only [List.getElem_toArray, List.getElem_cons_zero, List.getElem_cons_succ, Act.put, List.setIfInBounds_toArray, List.set_cons_zero, List.set_cons_succ]
      refine wpAnyH_ready (rs := [7]) (by kernel_rfl) (by simp) ?_
      refine AllReadyH.cons (i := 7) rfl (fun K hK => ?_) AllReadyH.nil
      go_simp
      go_at_call 64
      refine (HTO.out w6).mono ?_
      rintro e w7 ⟨rfl, hb7⟩
      have HB7 := Lib.hid (HB6.out.trans (hb7.mono HB6.out.size))
      have HST := Lib.hid (HOU.out w7 HB7.out)
      clear hb7
      refine hK.out _ _ (HRN.out _ HB7.out) (fun hHeld' => ?_)
      clear hHeld hK K
      have hHeld := hHeld'
      clear hHeld'
      try simp only [List.getElem_toArray, List.getElem_cons_zero, List.getElem_cons_succ, Act.put, List.setIfInBounds_toArray, List.set_cons_zero, List.set_cons_succ]
      refine wpAnyH_ready (rs := [8]) (by kernel_rfl) (by simp) ?_
      refine AllReadyH.cons (i := 8) rfl (fun K hK => ?_) AllReadyH.nil
      refine any_store_at rfl 32 (.tmp 6) (.tmp 51) rfl ⟨_, 0, none⟩ _ _ rfl rfl HST.out.1 ?_
      refine hK.out _ _ (HST.out.2.1) (fun hHeld' => ?_)
      clear hHeld hK K
      have hHeld := hHeld'
      clear hHeld'
      try simp only [List.getElem_toArray, List.getElem_cons_zero, List.getElem_cons_succ, Act.put, List.setIfInBounds_toArray, List.set_cons_zero, List.set_cons_succ]
      refine wpAnyH_take (i := 9) (v := ?v6) rfl (by kernel_rfl) (by kernel_rfl) (by kernel_rfl) (fun _ _ _ h => h) (Or.inl ⟨by rfl, ?y6⟩) (by assumption) ?r6
      case y6 =>
        intro w' hSw
        go_split_ands
        go_simp
        try with_reducible rfl
      try simp only [List.getElem_toArray, List.getElem_cons_zero, List.getElem_cons_succ, Act.put, List.setIfInBounds_toArray, List.set_cons_zero, List.set_cons_succ]
      refine wpAnyH_done (by kernel_rfl) ?_ _
      -- RESUME END
      go_wp2
      exact bodyPost_ret (results_row_tmp Tryd.results29 _ _ O _ _ _ _ rfl HST.out.2.2.2 Tryd.underlying32 rfl (HIH.out _ HRL.out)) rfl ⟨rfl, HST.out.2.2.1⟩
end Go.Proofs.YtnoilogepkelaaaDoor
