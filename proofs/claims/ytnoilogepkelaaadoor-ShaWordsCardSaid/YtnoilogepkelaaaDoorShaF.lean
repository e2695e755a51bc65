/-
  sha.fold: words, mixed with all blocks of some bytes.
-/
import Derived.Test.YtnoilogepkelaaaDoorInRow
import Derived.Test.YtnoilogepkelaaaDoorShaM
import Derived.Laws.Cover3
import Derived.Deep.MidRow
namespace Go.Proofs.YtnoilogepkelaaaDoor
set_option linter.unusedVariables false
set_option linter.unusedSimpArgs false
open Go Go.RowKit Go.Shelf
attribute [local go_sem] Oper.semAt_some

theorem kept_of_grownF {B : Nat} {W W' : World} {row : Option Nat} (hg : W.grownBy W' row) (hr : ∀ r, row = some r → B ≤ r) : ∃ l : List Nat, Kept l W W' ∧ ∀ k, k ∈ l → B ≤ k :=
  ⟨row.toList, ⟨hg.os, hg.tape, hg.output, hg.size, fun k hk hl => hg.block k hk (fun e => hl (by rw [← e]; simp))⟩, fun k hk => hr k (by simpa using hk)⟩
theorem anyIn_load {F : Fence} {n : Nat} {P : Program} {ops : Array Oper} {o : Oper} {a : Act} {w : World} {K : Act → World → Prop} {Q : Exit → Act → World → Prop} {E : Prop} (hgd : o.guard = none) (ty : TypeId) (x : Operand) (ho : o.op = .load ty x)
    (p : Addr) (hx : a.eval x = .pointer (some p)) (v : Value) (hl : (loadVar ty p).run P w = .ok v w)
    (h : K (a.put o.dst v) w) : if Region.wanted o (yielded ops a.tmps) = true then Oper.wpIn F n P o a w K Q else E := by
  have hw : Region.wanted o (yielded ops a.tmps) = true := by simp [Region.wanted, hgd]
  simp only [hw, if_true]
  unfold Oper.wpIn
  refine ⟨by simp [Oper.about, ho], ?_⟩
  rw [Oper.semAt_plain F _ _ (by rw [ho]; intro c hc'; cases hc')]
  unfold execOp
  simp only [ho, hx, Instr.loadAt, Instr.sureAddr, Sem.run_bind, Sem.run_pure, Result.andThen_ok, hl]
  exact h
theorem anyIn_store {F : Fence} {n : Nat} {P : Program} {ops : Array Oper} {o : Oper} {a : Act} {w : World} {K : Act → World → Prop} {Q : Exit → Act → World → Prop} {E : Prop} (hgd : o.guard = none) (ty : TypeId) (x y : Operand) (ho : o.op = .store ty x y)
    (p : Addr) (v : Value) (w' : World) (hx : a.eval x = .pointer (some p)) (hy : a.eval y = v) (hl : (storeVar ty p v).run P w = .ok () w')
    (h : K (a.put o.dst undef) w') : if Region.wanted o (yielded ops a.tmps) = true then Oper.wpIn F n P o a w K Q else E := by
  have hw : Region.wanted o (yielded ops a.tmps) = true := by simp [Region.wanted, hgd]
  simp only [hw, if_true]
  unfold Oper.wpIn
  refine ⟨by simp [Oper.about, ho], ?_⟩
  rw [Oper.semAt_plain F _ _ (by rw [ho]; intro c hc'; cases hc')]
  unfold execOp
  simp only [ho, hx, hy, Instr.storeAt, Instr.sureAddr, Sem.run_bind, Sem.run_pure, Result.andThen_ok, hl]
  exact h

/-- Words, mixed with blocks of given numbers. -/
def Sha.mixAll (ws : List (BitVec 32)) (b : List (BitVec 8)) (ks : List Nat) : List (BitVec 32) := ks.foldl (fun w k => Sha.mix w (Sha.block b k)) ws
theorem Sha.mixAll_snoc (ws : List (BitVec 32)) (b : List (BitVec 8)) (ks : List Nat) (k : Nat) : Sha.mixAll ws b (ks ++ [k]) = Sha.mix (Sha.mixAll ws b ks) (Sha.block b k) := by simp [Sha.mixAll]
theorem Sha.mixAll_length (ws : List (BitVec 32)) (b : List (BitVec 8)) (ks : List Nat) (h : ws.length = 8) : (Sha.mixAll ws b ks).length = 8 := by
  unfold Sha.mixAll
  induction ks generalizing ws with
  | nil => exact h
  | cons k ks ih => exact ih _ (Sha.mix_length _ _ h)
theorem Sha.mixAll_range (ws : List (BitVec 32)) (b : List (BitVec 8)) (n : Nat) : Sha.mixAll ws b (List.range n) = Sha.foldN ws b n := by
  induction n with
  | zero => rfl
  | succ n ih => rw [List.range_succ, Sha.mixAll_snoc, ih, Sha.foldN]

/-- What fold holds between its rounds. -/
structure FoldI (w : World) (ws : List (BitVec 32)) (W : World) : Prop where
  w_ : W.heap[w.heap.size]? = some (.cells (words ws) 27 (0, 0))
  out : W.heap[w.heap.size + 1]? = some (.cells (words (List.replicate 8 0)) 27 (0, 0))
  below : Below w.heap.size w W
  big : w.heap.size + 4 ≤ W.heap.size

theorem FoldI.kept {w : World} {ws : List (BitVec 32)} {W W' : World} {r : List Nat} {B : Nat} (h : FoldI w ws W) (hk : Kept r W W') (hB : w.heap.size + 2 ≤ B) (hr : ∀ k, k ∈ r → B ≤ k) : FoldI w ws W' :=
  have hW := h.big
  ⟨(hk.block _ (by omega) (fun hm => by have := hr _ hm; omega)).trans h.w_, (hk.block _ (by omega) (fun hm => by have := hr _ hm; omega)).trans h.out, h.below.trans (hk.toBelow (fun k hm => by have := hr _ hm; omega) h.below.size), Nat.le_trans h.big hk.size⟩
theorem FoldI.size {w : World} {ws : List (BitVec 32)} {W : World} (h : FoldI w ws W) : w.heap.size + 4 ≤ W.heap.size := h.big
theorem FoldI.ownFrom {w : World} {n : Nat} {ws : List (BitVec 32)} {b : List (BitVec 8)} {B : Nat} (hB : w.heap.size + 2 ≤ B) : OwnFrom B (fun (pre : List (Blk n)) W => FoldI w (Sha.mixAll ws b (pre.map (·.1))) W) := by
  intro s W W' row hs hg' hr
  obtain ⟨l, hk, hl⟩ := kept_of_grownF hg' (fun r e => (hr r e).1)
  exact hs.kept hk hB hl
theorem KeepsFrom.ofKeptF {l : List Nat} {B : Nat} {W W' : World} (h : Kept l W W') (hl : ∀ k, k ∈ l → k < B) : KeepsFrom B W W' :=
  ⟨h.size, fun k o hB hk _ => (h.block k (Array.getElem?_eq_some_iff.1 hk).1 (fun hm => by have := hl k hm; omega)).trans hk⟩

set_option maxRecDepth 100000 in
set_option maxHeartbeats 4000000 in
theorem fold_any (ws : List (BitVec 32)) (hw : ws.length = 8) (b : List (BitVec 8)) (v : Value) (w : World) (hs : SlB w v b) (h0 : 0 < b.length) (hl : b.length ≤ 100000000) (hm : b.length % 64 = 0) (hG : Glob w) :
    Calls Tryd.prog 62 #[.agg (words ws), v] w fun e w' => e = .returned (.agg (words (Sha.fold ws b))) ∧ Below w.heap.size w w' := by
  obtain ⟨g, off, cap, rfl, hcap, hgl⟩ := hs.open_ b.length rfl h0
  have HS := Lib.hid hs
  have HW := Lib.hid hw
  have HG := Lib.hid hG
  have HIW := Lib.hid (fun (xs : List (BitVec 32)) (h : xs.length = 8) => (show (Tryd.prog.info? 27).map (·.size) = some (words xs).size by rw [words_size, h]; kernel_rfl))
  have HMX := Lib.hid (fun (ws : List (BitVec 32)) (bl : List (BitVec 8)) (h1 : ws.length = 8) (h2 : bl.length = 64) W hg => mix_any ws bl h1 h2 W hg)
  obtain ⟨n, hbn⟩ : ∃ n, b.length = n := ⟨_, rfl⟩
  have HBN := Lib.hid hbn
  rw [hbn] at h0 hl hm hcap HS ⊢
  obtain ⟨wb, hwb⟩ : ∃ wb, words ws = wb := ⟨_, rfl⟩
  have HWB := Lib.hid hwb
  rw [hwb]
  clear hs hw hG hbn hwb
  refine (callsIn_wide (n := 5)).1 ?_
  refine callsIn_of_wp_marks Tryd.func62 rfl trivial ?_ rfl
  simp only [Tryd.ntmps62, List.size_toArray, List.length_cons, List.length_nil, Nat.reduceAdd, Nat.reduceSub, Array.replicate_succ, Array.replicate_zero, List.push_toArray, List.append_toArray, List.nil_append, List.cons_append]
  obtain ⟨X, hX, hBX, hXs, hX0, hX1⟩ := alloc2 w (.cells wb 27) (.cells (words (List.replicate 8 0)) 27)
  have hX' : (w.alloc (.cells wb 27)).alloc (.cells #[.int .u32 0, .int .u32 0, .int .u32 0, .int .u32 0, .int .u32 0, .int .u32 0, .int .u32 0, .int .u32 0] 27) = X := hX
  have HX := Lib.hid (And.intro hBX (And.intro hXs (And.intro hX0 hX1)))
  have HX' := Lib.hid hX'
  clear hX hX' hBX hXs hX0 hX1
  gi_wp2_with (refine ⟨trivial, ?_⟩; gi_at_call 89; rw [HX'.out]; refine (callsIn_wide.2 (chunk_any _ _ _ _)).mono ?_; rintro e w2 ⟨rfl, hb, hz, hc1, hc2⟩; have HB2 := Lib.hid hb; have HC := Lib.hid (And.intro hc1 hc2); clear hb hc1 hc2)
  have hz0 := HX.out.1.size
  have hzX := HX.out.2.1
  have hI0 : FoldI w ws w2 := ⟨by rw [HWB.out]; exact (HB2.out.block _ (by omega)).trans HX.out.2.2.1, (HB2.out.block _ (by omega)).trans HX.out.2.2.2, HX.out.1.trans (HB2.out.mono hz0), by omega⟩
  have HZ := Lib.hid (show w2.heap.size = w.heap.size + 4 ∧ X.heap.size = w.heap.size + 2 from ⟨by omega, by omega⟩)
  have HI0 := Lib.hid hI0
  refine wpIn_rangeFunc_ownG rfl (by omega) (gf := 97) (lb := #[.pointer (some ⟨X.heap.size, 0, none⟩), .pointer (some ⟨X.heap.size + 1, 0, none⟩)]) rfl trivial (enters_of Tryd.func97 (by kernel_rfl) rfl)
    (chunk_stops Fence.wide _ trivial rfl (by omega) X.heap.size (X.heap.size + 1) g off n _ (.inr ⟨cap, rfl, hcap, by omega⟩) w2 (by omega) (by omega) HC.out.1 HC.out.2) keepsTwo_t (keepsTwo_b (by omega) (by omega)) (Below.refl _ _) (fun _ => rfl)
    (fun (pre : List (Blk n)) W => FoldI w (Sha.mixAll ws b (pre.map (·.1))) W)
    (fun _ _ _ => False)
    (FoldI.ownFrom (by omega))
    (fun _ _ _ _ _ hs _ _ => hs)
    hI0
    (fun x => { tmps := #[Value.agg wb, Value.slice (some { block := g, off := off }) n cap,
          Value.pointer (some { block := w.heap.size, off := 0 }), undef,
          Value.pointer (some { block := w.heap.size + 1, off := 0 }), chunkV g off n x.1,
          Value.slice (some { block := g, off := off }) n cap,
          Value.func (Fn.func 97) #[]
            #[Value.pointer (some { block := X.heap.size, off := 0 }),
              Value.pointer (some { block := X.heap.size + 1, off := 0 })],
          chunkV g off n x.1, undef, undef, undef, undef, undef, undef], defers := [] }) ?assign ?body ?done ?stop
  case assign =>
    clear hzX hz
    intro l x W K hK
    gi_wp2
    exact hK
  case body =>
    rintro l pre ⟨k, hkn⟩ W hI _
    have hk64 : 64 * k + 64 ≤ n := by omega
    have hsW := hI.size
    obtain ⟨wc, hwc⟩ : ∃ wc, Sha.mixAll ws b (pre.map (·.1)) = wc := ⟨_, rfl⟩
    have hlc : wc.length = 8 := by rw [← hwc]; exact Sha.mixAll_length _ _ _ HW.out
    have hnext : Sha.mixAll ws b ((pre ++ [(⟨k, hkn⟩ : Blk n)]).map (·.1)) = Sha.mix wc (Sha.block b k) := by rw [List.map_append, ← hwc]; exact Sha.mixAll_snoc _ _ _ _
    rw [hwc] at hI
    have hbl : (Sha.block b k).length = 64 := Sha.block_length b k (by rw [HBN.out]; exact hk64)
    have hsb := ((HS.out.below hI.below (Nat.le_refl _)).drop (64 * k) (by omega)).take 64 (by omega)
    have hra : W.drew.rangeAt g (off + 64 * k) (bytes (Sha.block b k)).toList := fun j u hj => by
      rw [bytes_toList] at hj
      have hj' : j < (Sha.block b k).length := by have := (List.getElem?_eq_some_iff.1 hj).1; rwa [bcells_length] at this
      rw [bcells_get? _ j hj'] at hj
      rw [← Option.some.inj hj]
      exact hsb.cell j hj'
    have hl2 := run_loadVar_mid (P := Tryd.prog) W.drew g (off + 64 * k) 29 (bytes (Sha.block b k)).toList _ hra Tryd.underlying29 rfl (by rw [Array.length_toList, bytes_size, hbl]; kernel_rfl)
    rw [Array.toArray_toList] at hl2
    have HL0 := Lib.hid (run_loadVar_row (P := Tryd.prog) W.drew w.heap.size 27 27 (words wc) _ _ hI.w_ Tryd.underlying27 rfl (HIW.out wc hlc))
    have hmk := HMX.out wc (Sha.block b k) hlc hbl W.drew (HG.out.below (by exact hI.below.drew) HG.out.size)
    have HMK := Lib.hid hmk
    have hml : (Sha.mix wc (Sha.block b k)).length = 8 := Sha.mix_length _ _ hlc
    have HNX := Lib.hid hnext
    have HML := Lib.hid hml
    have HI := Lib.hid hI
    have HWL := Lib.hid hlc
    generalize hbk : Sha.block b k = blk at *
    generalize hmx : Sha.mix wc blk = mx at *
    have ev : chunkV g off n k = .slice (some ⟨g, off + 64 * k, none⟩) 64 64 := by rw [chunkV, show min 64 (n - 64 * k) = 64 by omega]
    simp only [ev]
    have hat := run_arrayAt (P := Tryd.prog) W.drew 29 5 64 (some ⟨g, off + 64 * k, none⟩) 64 64 Tryd.underlying29 (Nat.le_refl _)
    have HL3 := Lib.hid hl2
    clear hl2 hnext hml hI hlc hbl hsb hra ev hbk hmx hwc hmk hzX hz
    have HSR : Hid (∀ w3 : World, Below W.heap.size W.drew w3 → (storeVar 27 ⟨w.heap.size, 0, none⟩ (.agg (words mx))).run Tryd.prog w3 = .ok () (w3.setRow w.heap.size (words mx)) ∧ KeepsFrom w2.heap.size W (w3.setRow w.heap.size (words mx)) ∧ KeepsTwo X.heap.size (X.heap.size + 1) W (w3.setRow w.heap.size (words mx)) ∧
        FoldI w (Sha.mixAll ws b ((pre ++ [(⟨k, hkn⟩ : Blk n)]).map (·.1))) (w3.setRow w.heap.size (words mx))) := by
      intro w3 hb3
      have hsW := HI.out.size
      have hz2 := HZ.out.1
      have hx2 := HZ.out.2
      have h3w := (hb3.block w.heap.size (by show w.heap.size < W.heap.size; omega)).trans HI.out.w_
      have hk : Kept [w.heap.size] W (w3.setRow w.heap.size (words mx)) := (((Kept.refl [] W).drew.trans ((Kept.ofBelow (l := []) (w := W.drew) hb3 (Nat.le_refl _)) : Kept [] W w3)).mono (by simp)).setRow (by simp) _
      refine ⟨run_storeVar_row w3 w.heap.size _ _ (words wc) (words mx) h3w (HIW.out mx HML.out) (by rw [words_size, words_size, HWL.out, HML.out]) (words_one _), KeepsFrom.ofKeptF hk (by simp; omega), ⟨hk.block _ (by omega) (by simp; omega), hk.block _ (by omega) (by simp; omega)⟩, ?_⟩
      rw [HNX.out]
      exact ⟨setRow_heap _ _ _ _ _ _ h3w, (hk.block _ (by omega) (by simp)).trans HI.out.out, HI.out.below.trans (hk.toBelow (by simp) (by omega)), Nat.le_trans HI.out.big hk.size⟩
    gi_wp2
    refine wpIn_region_any (by kernel_rfl) ?_
    change wpAnyIn _ _ _ _ _ _ _ _ _ (World.drew _)
    refine wpAnyIn_ready (rs := [0, 1]) (by kernel_rfl) (by simp) ?_
    refine AllReadyIn.cons (i := 0) rfl (fun K hK => ?_) ?_
    · refine anyIn_load rfl 27 (.tmp 2) rfl ⟨w.heap.size, 0, none⟩ rfl _ HL0.out ?_
      refine hK _ _ ?_
      clear hK K
      try simp only [List.getElem_toArray, List.getElem_cons_zero, List.getElem_cons_succ, Act.put, List.setIfInBounds_toArray, List.set_cons_zero, List.set_cons_succ]
      refine wpAnyIn_ready (rs := [1]) (by kernel_rfl) (by simp) ?_
      refine AllReadyIn.cons (i := 1) rfl (fun K hK => ?_) AllReadyIn.nil
      go_simp
      refine hK _ _ ?_
      clear hK K
      try simp only [List.getElem_toArray, List.getElem_cons_zero, List.getElem_cons_succ, Act.put, List.setIfInBounds_toArray, List.set_cons_zero, List.set_cons_succ]
      refine wpAnyIn_ready (rs := [2]) (by kernel_rfl) (by simp) ?_
      refine AllReadyIn.cons (i := 2) rfl (fun K hK => ?_) AllReadyIn.nil
      go_simp
      refine hK _ _ ?_
      clear hK K
      try simp only [List.getElem_toArray, List.getElem_cons_zero, List.getElem_cons_succ, Act.put, List.setIfInBounds_toArray, List.set_cons_zero, List.set_cons_succ]
      refine wpAnyIn_ready (rs := [3]) (by kernel_rfl) (by simp) ?_
      refine AllReadyIn.cons (i := 3) rfl (fun K hK => ?_) AllReadyIn.nil
      refine anyIn_load rfl 29 (.tmp 11) rfl ⟨g, off + 64 * k, none⟩ rfl _ HL3.out ?_
      refine hK _ _ ?_
      clear hK K
      try simp only [List.getElem_toArray, List.getElem_cons_zero, List.getElem_cons_succ, Act.put, List.setIfInBounds_toArray, List.set_cons_zero, List.set_cons_succ]
      refine wpAnyIn_ready (rs := [4]) (by kernel_rfl) (by simp) ?_
      refine AllReadyIn.cons (i := 4) rfl (fun K hK => ?_) AllReadyIn.nil
      go_simp
      refine ⟨trivial, ?_⟩
      gi_at_call 26
      refine (CallsIn.inRound l (callsIn_wide.2 HMK.out)).mono ?_
      rintro e w3 ⟨rfl, hb3⟩
      have HST := Lib.hid (HSR.out w3 hb3)
      refine hK _ _ ?_
      clear hK K
      try simp only [List.getElem_toArray, List.getElem_cons_zero, List.getElem_cons_succ, Act.put, List.setIfInBounds_toArray, List.set_cons_zero, List.set_cons_succ]
      refine wpAnyIn_ready (rs := [5]) (by kernel_rfl) (by simp) ?_
      refine AllReadyIn.cons (i := 5) rfl (fun K hK => ?_) AllReadyIn.nil
      refine anyIn_store rfl 27 (.tmp 2) (.tmp 13) rfl ⟨w.heap.size, 0, none⟩ (.agg (words mx)) _ rfl rfl HST.out.1 ?_
      refine hK _ _ ?_
      clear hK K
      try simp only [List.getElem_toArray, List.getElem_cons_zero, List.getElem_cons_succ, Act.put, List.setIfInBounds_toArray, List.set_cons_zero, List.set_cons_succ]
      refine wpAnyIn_done (by kernel_rfl) ?_ _
      gi_wp2
      exact HST.out.2
    · refine AllReadyIn.cons (i := 1) rfl (fun K hK => ?_) AllReadyIn.nil
      go_simp
      refine hK _ _ ?_
      clear hK K
      try simp only [List.getElem_toArray, List.getElem_cons_zero, List.getElem_cons_succ, Act.put, List.setIfInBounds_toArray, List.set_cons_zero, List.set_cons_succ]
      refine wpAnyIn_ready (rs := [0, 2]) (by kernel_rfl) (by simp) ?_
      refine AllReadyIn.cons (i := 0) rfl (fun K hK => ?_) ?_
      · refine anyIn_load rfl 27 (.tmp 2) rfl ⟨w.heap.size, 0, none⟩ rfl _ HL0.out ?_
        refine hK _ _ ?_
        clear hK K
        try simp only [List.getElem_toArray, List.getElem_cons_zero, List.getElem_cons_succ, Act.put, List.setIfInBounds_toArray, List.set_cons_zero, List.set_cons_succ]
        refine wpAnyIn_ready (rs := [2]) (by kernel_rfl) (by simp) ?_
        refine AllReadyIn.cons (i := 2) rfl (fun K hK => ?_) AllReadyIn.nil
        go_simp
        refine hK _ _ ?_
        clear hK K
        try simp only [List.getElem_toArray, List.getElem_cons_zero, List.getElem_cons_succ, Act.put, List.setIfInBounds_toArray, List.set_cons_zero, List.set_cons_succ]
        refine wpAnyIn_ready (rs := [3]) (by kernel_rfl) (by simp) ?_
        refine AllReadyIn.cons (i := 3) rfl (fun K hK => ?_) AllReadyIn.nil
        refine anyIn_load rfl 29 (.tmp 11) rfl ⟨g, off + 64 * k, none⟩ rfl _ HL3.out ?_
        refine hK _ _ ?_
        clear hK K
        try simp only [List.getElem_toArray, List.getElem_cons_zero, List.getElem_cons_succ, Act.put, List.setIfInBounds_toArray, List.set_cons_zero, List.set_cons_succ]
        refine wpAnyIn_ready (rs := [4]) (by kernel_rfl) (by simp) ?_
        refine AllReadyIn.cons (i := 4) rfl (fun K hK => ?_) AllReadyIn.nil
        go_simp
        refine ⟨trivial, ?_⟩
        gi_at_call 26
        refine (CallsIn.inRound l (callsIn_wide.2 HMK.out)).mono ?_
        rintro e w3 ⟨rfl, hb3⟩
        have HST := Lib.hid (HSR.out w3 hb3)
        refine hK _ _ ?_
        clear hK K
        try simp only [List.getElem_toArray, List.getElem_cons_zero, List.getElem_cons_succ, Act.put, List.setIfInBounds_toArray, List.set_cons_zero, List.set_cons_succ]
        refine wpAnyIn_ready (rs := [5]) (by kernel_rfl) (by simp) ?_
        refine AllReadyIn.cons (i := 5) rfl (fun K hK => ?_) AllReadyIn.nil
        refine anyIn_store rfl 27 (.tmp 2) (.tmp 13) rfl ⟨w.heap.size, 0, none⟩ (.agg (words mx)) _ rfl rfl HST.out.1 ?_
        refine hK _ _ ?_
        clear hK K
        try simp only [List.getElem_toArray, List.getElem_cons_zero, List.getElem_cons_succ, Act.put, List.setIfInBounds_toArray, List.set_cons_zero, List.set_cons_succ]
        refine wpAnyIn_done (by kernel_rfl) ?_ _
        gi_wp2
        exact HST.out.2
      · refine AllReadyIn.cons (i := 2) rfl (fun K hK => ?_) AllReadyIn.nil
        go_simp
        refine hK _ _ ?_
        clear hK K
        try simp only [List.getElem_toArray, List.getElem_cons_zero, List.getElem_cons_succ, Act.put, List.setIfInBounds_toArray, List.set_cons_zero, List.set_cons_succ]
        refine wpAnyIn_ready (rs := [0, 3]) (by kernel_rfl) (by simp) ?_
        refine AllReadyIn.cons (i := 0) rfl (fun K hK => ?_) ?_
        · refine anyIn_load rfl 27 (.tmp 2) rfl ⟨w.heap.size, 0, none⟩ rfl _ HL0.out ?_
          refine hK _ _ ?_
          clear hK K
          try simp only [List.getElem_toArray, List.getElem_cons_zero, List.getElem_cons_succ, Act.put, List.setIfInBounds_toArray, List.set_cons_zero, List.set_cons_succ]
          refine wpAnyIn_ready (rs := [3]) (by kernel_rfl) (by simp) ?_
          refine AllReadyIn.cons (i := 3) rfl (fun K hK => ?_) AllReadyIn.nil
          refine anyIn_load rfl 29 (.tmp 11) rfl ⟨g, off + 64 * k, none⟩ rfl _ HL3.out ?_
          refine hK _ _ ?_
          clear hK K
          try simp only [List.getElem_toArray, List.getElem_cons_zero, List.getElem_cons_succ, Act.put, List.setIfInBounds_toArray, List.set_cons_zero, List.set_cons_succ]
          refine wpAnyIn_ready (rs := [4]) (by kernel_rfl) (by simp) ?_
          refine AllReadyIn.cons (i := 4) rfl (fun K hK => ?_) AllReadyIn.nil
          go_simp
          refine ⟨trivial, ?_⟩
          gi_at_call 26
          refine (CallsIn.inRound l (callsIn_wide.2 HMK.out)).mono ?_
          rintro e w3 ⟨rfl, hb3⟩
          have HST := Lib.hid (HSR.out w3 hb3)
          refine hK _ _ ?_
          clear hK K
          try simp only [List.getElem_toArray, List.getElem_cons_zero, List.getElem_cons_succ, Act.put, List.setIfInBounds_toArray, List.set_cons_zero, List.set_cons_succ]
          refine wpAnyIn_ready (rs := [5]) (by kernel_rfl) (by simp) ?_
          refine AllReadyIn.cons (i := 5) rfl (fun K hK => ?_) AllReadyIn.nil
          refine anyIn_store rfl 27 (.tmp 2) (.tmp 13) rfl ⟨w.heap.size, 0, none⟩ (.agg (words mx)) _ rfl rfl HST.out.1 ?_
          refine hK _ _ ?_
          clear hK K
          try simp only [List.getElem_toArray, List.getElem_cons_zero, List.getElem_cons_succ, Act.put, List.setIfInBounds_toArray, List.set_cons_zero, List.set_cons_succ]
          refine wpAnyIn_done (by kernel_rfl) ?_ _
          gi_wp2
          exact HST.out.2
        · refine AllReadyIn.cons (i := 3) rfl (fun K hK => ?_) AllReadyIn.nil
          refine anyIn_load rfl 29 (.tmp 11) rfl ⟨g, off + 64 * k, none⟩ rfl _ HL3.out ?_
          refine hK _ _ ?_
          clear hK K
          try simp only [List.getElem_toArray, List.getElem_cons_zero, List.getElem_cons_succ, Act.put, List.setIfInBounds_toArray, List.set_cons_zero, List.set_cons_succ]
          refine wpAnyIn_ready (rs := [0]) (by kernel_rfl) (by simp) ?_
          refine AllReadyIn.cons (i := 0) rfl (fun K hK => ?_) AllReadyIn.nil
          refine anyIn_load rfl 27 (.tmp 2) rfl ⟨w.heap.size, 0, none⟩ rfl _ HL0.out ?_
          refine hK _ _ ?_
          clear hK K
          try simp only [List.getElem_toArray, List.getElem_cons_zero, List.getElem_cons_succ, Act.put, List.setIfInBounds_toArray, List.set_cons_zero, List.set_cons_succ]
          refine wpAnyIn_ready (rs := [4]) (by kernel_rfl) (by simp) ?_
          refine AllReadyIn.cons (i := 4) rfl (fun K hK => ?_) AllReadyIn.nil
          go_simp
          refine ⟨trivial, ?_⟩
          gi_at_call 26
          refine (CallsIn.inRound l (callsIn_wide.2 HMK.out)).mono ?_
          rintro e w3 ⟨rfl, hb3⟩
          have HST := Lib.hid (HSR.out w3 hb3)
          refine hK _ _ ?_
          clear hK K
          try simp only [List.getElem_toArray, List.getElem_cons_zero, List.getElem_cons_succ, Act.put, List.setIfInBounds_toArray, List.set_cons_zero, List.set_cons_succ]
          refine wpAnyIn_ready (rs := [5]) (by kernel_rfl) (by simp) ?_
          refine AllReadyIn.cons (i := 5) rfl (fun K hK => ?_) AllReadyIn.nil
          refine anyIn_store rfl 27 (.tmp 2) (.tmp 13) rfl ⟨w.heap.size, 0, none⟩ (.agg (words mx)) _ rfl rfl HST.out.1 ?_
          refine hK _ _ ?_
          clear hK K
          try simp only [List.getElem_toArray, List.getElem_cons_zero, List.getElem_cons_succ, Act.put, List.setIfInBounds_toArray, List.set_cons_zero, List.set_cons_succ]
          refine wpAnyIn_done (by kernel_rfl) ?_ _
          gi_wp2
          exact HST.out.2
  case done =>
    rintro D ys W hD hys hI hK
    rw [hys, show (n + 63) / 64 = n / 64 by omega, Sha.mixAll_range, show n / 64 = b.length / 64 by rw [HBN.out]] at hI
    have HI := Lib.hid (show FoldI w (Sha.fold ws b) W from hI)
    have HFL := Lib.hid (show (Sha.fold ws b).length = 8 from Sha.foldN_length _ _ _ HW.out)
    have HD := Lib.hid hD
    have HSW := Lib.hid HI.out.size
    have HIF := Lib.hid (HIW.out _ HFL.out)
    have HK2 := Lib.hid ((Kept.refl [w.heap.size + 1] W).setRow (b := w.heap.size + 1) (by simp) (words (Sha.fold ws b)))
    have hK' := hK
    clear hI hD hys
    gi_wp2_with (first
      | (refine wpListIn_load_row rfl 27 (.tmp 2) rfl w.heap.size rfl _ _ _ _ HI.out.w_ Tryd.underlying27 rfl HIF.out ?_)
      | (refine wpListIn_store_row rfl 27 (.tmp 4) (.tmp 14) rfl (w.heap.size + 1) _ rfl rfl _ _ HI.out.out HIF.out (by rw [words_size, words_size, HFL.out]; rfl) (words_one _) ?_))
    obtain ⟨W1, hW1⟩ : ∃ W1, W.setRow (w.heap.size + 1) (words (Sha.fold ws b)) = W1 := ⟨_, rfl⟩
    have h1o : W1.heap[w.heap.size + 1]? = some (.cells (words (Sha.fold ws b)) 27 (0, 0)) := by rw [← hW1]; exact setRow_heap _ _ _ _ _ _ HI.out.out
    have hD2 := HD.out
    have hz2 := HZ.out.1
    have hb1 : Below w.heap.size w W1 := by rw [← hW1]; exact HI.out.below.trans (HK2.out.toBelow (by simp) (by have := HSW.out; omega))
    have hK1 : W1.heap[D]? = some (.deferred (some [])) := by rw [← hW1]; exact (setRow_other _ _ _ _ (by omega)).trans hK
    have hs1 : w.heap.size + 4 ≤ W1.heap.size := by rw [← hW1, setRow_size]; exact HSW.out
    rw [hW1]
    refine ⟨by simp, .inl ⟨_, _, rfl, run_takeDeferred hK1, ?_⟩⟩
    obtain ⟨l, hkp, hl⟩ := kept_of_grownF (grownBy_putObj' W1 D (.deferred none)) (B := w2.heap.size) (fun r e => by cases e; exact HD.out)
    have h2o := (hkp.block (w.heap.size + 1) (by omega) (fun hm => by have := hl _ hm; omega)).trans h1o
    have hb2 := hb1.trans (hkp.toBelow (fun k hm => by have := hl _ hm; omega) (by omega))
    exact ⟨_, results_cell_row Tryd.results62 _ _ (w.heap.size + 1) _ _ _ _ rfl h2o Tryd.underlying27 rfl HIF.out, rfl, hb2⟩
  case stop =>
    rintro D c pre W _ _ h _
    exact h.elim
end Go.Proofs.YtnoilogepkelaaaDoor
