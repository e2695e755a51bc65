/-
  chacha.Stream: the bytes that come of a key, a counter, a nonce and bytes.
-/
import Derived.Test.YtnoilogepkelaaaInRow
import Derived.Test.YtnoilogepkelaaaChaU
import Derived.Test.YtnoilogepkelaaaChaK
namespace Go.Proofs.Ytnoilogepkelaaa
set_option linter.unusedVariables false
set_option linter.unusedSimpArgs false
open Go Go.RowKit Go.Shelf
attribute [local go_sem] u32_add u32_sub u32_xor u32_or u32_and' u32_shl u32_shr u32_shr8 u32_shr16 u32_shr24 u32_to_u8 u8_xor' Oper.semAt_some

/-- Between two rounds: the key, the counter, the nonce, the bytes of the call's own. -/
structure StI (w : World) (B g n cap : Nat) (key nonce : List (BitVec 8)) (c : BitVec 32) (l : List (BitVec 8)) (W : World) : Prop where
  size : B ≤ W.heap.size
  key : W.heap[w.heap.size]? = some (.cells (bytes key) 29 (0, 0))
  ctr : W.heap[w.heap.size + 1]? = some (.cells #[.int .u32 (wv c)] 22 (0, 0))
  nonce : W.heap[w.heap.size + 2]? = some (.cells (bytes nonce) 31 (0, 0))
  own : OwnB 5 (w.heap.size + 3) W (.slice (some ⟨g, 0, none⟩) n cap) l
  below : Below w.heap.size w W
theorem OwnB.keptG {E base g n cap : Nat} {l : List Nat} {w w' : World} {xs : List (BitVec 8)} (h : OwnB E base w (.slice (some ⟨g, 0, none⟩) n cap) xs) (hk : Kept l w w') (hg : g ∉ l) : OwnB E base w' (.slice (some ⟨g, 0, none⟩) n cap) xs := by
  refine ⟨h.1, ?_⟩
  rcases h.2 with hn | ⟨g', cap', cur, e, h1, hb, h2⟩
  · exact .inl hn
  · have e' := e
    simp only [Value.slice.injEq, Option.some.injEq, Addr.mk.injEq] at e'
    obtain rfl : g = g' := e'.1.1
    refine .inr ⟨g, cap', cur, e, h1, ?_, h2⟩
    rw [hk.block g (Array.getElem?_eq_some_iff.1 hb).1 hg]
    exact hb
theorem OwnB.ltg {E base g n cap : Nat} {w : World} {xs : List (BitVec 8)} (h : OwnB E base w (.slice (some ⟨g, 0, none⟩) n cap) xs) : g < w.heap.size ∧ base ≤ g := by
  rcases h.2 with ⟨hn, _⟩ | ⟨g', cap', cur, e, h1, hb, h2⟩
  · cases hn
  · simp only [Value.slice.injEq, Option.some.injEq, Addr.mk.injEq] at e
    obtain rfl : g = g' := e.1.1
    exact ⟨(Array.getElem?_eq_some_iff.1 hb).1, h1⟩
theorem StI.kept {w : World} {B g n cap : Nat} {key nonce : List (BitVec 8)} {c : BitVec 32} {l : List (BitVec 8)} {W W' : World} {r : List Nat} (h : StI w B g n cap key nonce c l W) (hk : Kept r W W') (hB : w.heap.size + 3 ≤ B) (hr : ∀ k, k ∈ r → B ≤ k) (hg : g < B) : StI w B g n cap key nonce c l W' := by
  have hs := h.size
  refine ⟨by have := hk.size; omega, (hk.block _ (by omega) (fun hm => by have := hr _ hm; omega)).trans h.key, (hk.block _ (by omega) (fun hm => by have := hr _ hm; omega)).trans h.ctr, (hk.block _ (by omega) (fun hm => by have := hr _ hm; omega)).trans h.nonce, h.own.keptG hk (fun hm => by have := hr _ hm; omega), h.below.trans (hk.toBelow (fun k hm => by have := hr _ hm; omega) (by omega))⟩
theorem kept_of_grown {B : Nat} {W W' : World} {row : Option Nat} (hg : W.grownBy W' row) (hr : ∀ r, row = some r → B ≤ r) : ∃ l : List Nat, Kept l W W' ∧ ∀ k, k ∈ l → B ≤ k := by
  refine ⟨row.toList, ⟨hg.os, hg.tape, hg.output, hg.size, fun k hk hl => hg.block k hk (fun e => hl (by rw [← e]; simp))⟩, fun k hk => hr k (by simpa using hk)⟩
theorem StI.ownFrom {w : World} {B g n cap : Nat} {key nonce : List (BitVec 8)} {c0 : BitVec 32} {l0 : List (BitVec 8)} (hB : w.heap.size + 3 ≤ B) (hg : g < B) :
    OwnFrom B (fun (pre : List (Blk n)) W => StI w B g n cap key nonce (Cha.crun key nonce c0 l0 (pre.map (·.1))).1 (Cha.crun key nonce c0 l0 (pre.map (·.1))).2 W) := by
  intro s W W' row hs hg' hr
  obtain ⟨l, hk, hl⟩ := kept_of_grown hg' (fun r e => (hr r e).1)
  exact hs.kept hk hB hl hg

theorem StI.put {w : World} {B g n cap : Nat} {key nonce : List (BitVec 8)} {c : BitVec 32} {l : List (BitVec 8)} {W : World} (h : StI w B g n cap key nonce c l W) (j : Nat) (hj : j < l.length) (x : BitVec 8) : StI w B g n cap key nonce c (l.set j x) (W.setCell ⟨g, j, none⟩ (.int .u8 (bv x))) := by
  have hg := h.own.ltg
  have hk : Kept [g] W (W.setCell ⟨g, j, none⟩ (.int .u8 (bv x))) := (Kept.refl [g] W).setCell (by simp) _
  have hs : w.heap.size + 3 ≤ W.heap.size := by omega
  exact ⟨Nat.le_trans h.size hk.size, (hk.block _ (by omega) (by simp; omega)).trans h.key, (hk.block _ (by omega) (by simp; omega)).trans h.ctr, (hk.block _ (by omega) (by simp; omega)).trans h.nonce, h.own.set_cell j hj x, h.below.trans (hk.toBelow (by simp; omega) (by omega))⟩
theorem StI.drew {w : World} {B g n cap : Nat} {key nonce : List (BitVec 8)} {c : BitVec 32} {l : List (BitVec 8)} {W : World} (h : StI w B g n cap key nonce c l W) : StI w B g n cap key nonce c l W.drew :=
  ⟨h.size, h.key, h.ctr, h.nonce, h.own.keptG (Kept.refl [] W).drew (by simp), h.below.drew⟩
theorem StI.count {w : World} {B g n cap : Nat} {key nonce : List (BitVec 8)} {c : BitVec 32} {l : List (BitVec 8)} {W : World} (h : StI w B g n cap key nonce c l W) (c' : BitVec 32) : StI w B g n cap key nonce c' l (W.setCell ⟨w.heap.size + 1, 0, none⟩ (.int .u32 (wv c'))) := by
  have hg := h.own.ltg
  have hk : Kept [w.heap.size + 1] W (W.setCell ⟨w.heap.size + 1, 0, none⟩ (.int .u32 (wv c'))) := (Kept.refl _ W).setCell (by simp) _
  have hs : w.heap.size + 3 ≤ W.heap.size := by omega
  refine ⟨Nat.le_trans h.size hk.size, (hk.block _ (by omega) (by simp)).trans h.key, ?_, (hk.block _ (by omega) (by simp)).trans h.nonce, h.own.keptG hk (by simp; omega), h.below.trans (hk.toBelow (by simp) (by omega))⟩
  exact heap_setCell_same W _ 0 _ _ _ h.ctr
theorem KeepsFrom.ofKept {l : List Nat} {B : Nat} {W W' : World} (h : Kept l W W') (hl : ∀ k, k ∈ l → k < B) : KeepsFrom B W W' :=
  ⟨h.size, fun k o hB hk _ => (h.block k (Array.getElem?_eq_some_iff.1 hk).1 (fun hm => by have := hl k hm; omega)).trans hk⟩

set_option maxRecDepth 100000 in
set_option maxHeartbeats 4000000 in
theorem stream_err (key nonce b : List (BitVec 8)) (c : BitVec 32) (v : Value) (w : World) (hs : SlB w v b) (hk : key.length = 32) (hn : nonce.length = 12) (hl : b.length ≤ 100000000) (hf : Cha.fits c b.length = false) :
    Calls Try.prog 14 #[.agg (bytes key), .int .u32 (wv c), .agg (bytes nonce), v] w fun e w' => e = .returned (.tuple #[.slice none 0 0, .int .i64 13]) ∧ Below w.heap.size w w' := by
  obtain ⟨a, cap, rfl⟩ := hs.len
  have c0 := wv_nonneg c
  have c1 := wv_lt c
  have h0 : 0 < b.length := by simp [Cha.fits] at hf; omega
  have h1 : 4294967295 < wv c + ((b.length : Int) - 1) / 64 := by simp [Cha.fits] at hf; unfold wv; omega
  generalize bytes key = kb
  generalize bytes nonce = nb
  generalize wv c = cv at *
  clear hf hs
  refine (callsIn_wide (n := 3)).1 ?_
  refine callsIn_of_wp_marks Try.func14 rfl trivial ?_ rfl
  simp only [Try.ntmps14, List.size_toArray, List.length_cons, List.length_nil, Nat.reduceAdd, Nat.reduceSub, Array.replicate_succ, Array.replicate_zero, List.push_toArray, List.append_toArray, List.nil_append, List.cons_append]
  gi_wp2
  exact ⟨_, by simp [results, Try.results14, go_sem], rfl, (((Below.refl _ w).alloc (Nat.le_refl _) _).alloc (by simp) _).alloc (by simp <;> omega) _⟩

set_option maxRecDepth 100000 in
set_option maxHeartbeats 4000000 in
theorem stream_ok (key nonce b : List (BitVec 8)) (c : BitVec 32) (v : Value) (w : World) (hs : SlB w v b) (hk : key.length = 32) (hn : nonce.length = 12) (hl : b.length ≤ 100000000) (h0 : 0 < b.length) (hf : Cha.fits c b.length = true) :
    Calls Try.prog 14 #[.agg (bytes key), .int .u32 (wv c), .agg (bytes nonce), v] w fun e w' => ∃ v', e = .returned (.tuple #[v', .int .i64 0]) ∧ OwnB 5 w.heap.size w' v' (Cha.stream key c nonce b) ∧ Below w.heap.size w w' := by
  obtain ⟨a, cap, rfl⟩ := hs.len
  have c0 := wv_nonneg c
  have c1 := wv_lt c
  have hb0 : b ≠ [] := by intro e; rw [e] at h0; simp at h0
  have h1 : wv c + ((b.length : Int) - 1) / 64 ≤ 4294967295 := by simp [Cha.fits, hb0] at hf; unfold wv; omega
  have HS := Lib.hid hs
  have HK := Lib.hid hk
  have HN := Lib.hid hn
  clear hf hs hk hn hb0
  obtain ⟨cv, hcv⟩ : ∃ cv, cv = wv c := ⟨_, rfl⟩
  obtain ⟨kb, hkb⟩ : ∃ kb, kb = bytes key := ⟨_, rfl⟩
  obtain ⟨nb, hnb⟩ : ∃ nb, nb = bytes nonce := ⟨_, rfl⟩
  obtain ⟨n, hbn⟩ : ∃ n, n = b.length := ⟨_, rfl⟩
  rw [← hcv] at c0 c1 h1
  rw [← hbn] at h0 h1 hl
  rw [← hcv, ← hkb, ← hnb, ← hbn]
  refine (callsIn_wide (n := 5)).1 ?_
  refine callsIn_of_wp_marks Try.func14 rfl trivial ?_ rfl
  simp only [Try.ntmps14, List.size_toArray, List.length_cons, List.length_nil, Nat.reduceAdd, Nat.reduceSub, Array.replicate_succ, Array.replicate_zero, List.push_toArray, List.append_toArray, List.nil_append, List.cons_append]
  obtain ⟨W, hW, hB1, hz1, hk1, hc1, hn1⟩ := alloc3 w (.cells kb 29) (.cells #[.int .u32 cv] 22) (.cells nb 31)
  have HX := Lib.hid (And.intro hB1 (And.intro hz1 (And.intro hk1 (And.intro hc1 hn1))))
  have HS1 := Lib.hid (HS.out.below hB1 (Nat.le_refl _))
  have HW := Lib.hid hW
  have HLK := Lib.hid hl
  rw [← hbn] at HS1
  have HE := Lib.hid (And.intro hcv (And.intro hkb (And.intro hnb hbn)))
  clear hB1 hz1 hk1 hc1 hn1 hW HS hcv hkb hnb hbn
  gi_wp2_with (first
    | (refine ⟨trivial, ?_⟩; gi_at_call 23; rw [HW.out]; refine (callsIn_wide.2 (clone_any _ b W HS1.out (by have := HE.out.2.2.2; omega))).mono ?_; rintro e w1 ⟨v1, rfl, ho, hb⟩; obtain ⟨g, cap1, rfl, hg, hgl, hcap, hsl⟩ := ho.form n HE.out.2.2.2.symm h0; have HO := Lib.hid ho; have HB := Lib.hid hb; clear ho hb hsl)
    | (refine ⟨trivial, ?_⟩; gi_at_call 24; refine (callsIn_wide.2 (chunk_any _ _ _ _)).mono ?_; rintro e w2 ⟨rfl, hb, hz, hc1, hc2⟩; have HB2 := Lib.hid hb; have HC := Lib.hid (And.intro hc1 hc2); clear hb hc1 hc2))
  have hsz2 : w2.heap.size = w1.heap.size + 2 := hz
  have hst : StI w w2.heap.size g n cap1 key nonce c b w2 := by
    obtain ⟨h1, h2, h3, h4, h5⟩ := HX.out
    obtain ⟨e1, e2, e3, e4⟩ := HE.out
    have hs1 := HB.out.size
    have b12 : Below W.heap.size W w2 := HB.out.trans (HB2.out.mono hs1)
    rw [e1] at h4
    rw [e2] at h3
    rw [e3] at h5
    refine ⟨Nat.le_refl _, (b12.block _ (by omega)).trans h3, (b12.block _ (by omega)).trans h4, (b12.block _ (by omega)).trans h5, ?_, h1.trans (b12.mono (by omega))⟩
    have := HO.out.below HB2.out (Nat.le_refl _)
    rwa [h2] at this
  have hw3 : w.heap.size + 3 ≤ w1.heap.size := by have := HX.out.2.1; have := HB.out.size; omega
  have hg3 : w.heap.size + 3 ≤ g := by have := HX.out.2.1; omega
  refine wpIn_rangeFunc_ownG rfl (by omega) (gf := 28) (lb := #[.pointer (some ⟨w1.heap.size, 0, none⟩), .pointer (some ⟨w1.heap.size + 1, 0, none⟩)]) rfl trivial (enters_of Try.func28 (by kernel_rfl) rfl)
    (chunk_stops Fence.wide _ trivial rfl (by omega) w1.heap.size (w1.heap.size + 1) g 0 n _ (.inr ⟨cap1, rfl, hcap, by omega⟩) w2 (by omega) (by omega) HC.out.1 HC.out.2) keepsTwo_t (keepsTwo_b (by omega) (by omega)) (Below.refl _ _) (fun _ => rfl)
    (fun (pre : List (Blk n)) W => StI w w2.heap.size g n cap1 key nonce (Cha.crun key nonce c b (pre.map (·.1))).1 (Cha.crun key nonce c b (pre.map (·.1))).2 W)
    (fun _ _ _ => False)
    (StI.ownFrom (by omega) (by omega))
    (fun _ _ _ _ _ hs _ _ => hs)
    hst
    (fun x => { tmps := #[Value.agg kb, Value.int IntKind.u32 cv, Value.agg nb, Value.slice a n cap,
          Value.pointer (some { block := w.heap.size, off := 0 }),
          Value.pointer (some { block := w.heap.size + 1, off := 0 }),
          Value.pointer (some { block := w.heap.size + 1 + 1, off := 0 }), undef, Value.slice none 0 0,
          Value.int IntKind.i64 0, Value.slice (some { block := g, off := 0 }) n cap1, chunkV g 0 n x.1, undef, undef,
          Value.slice a n cap, Value.int IntKind.i64 n, Value.bool true, Value.bool true, Value.int IntKind.u32 cv,
          Value.int IntKind.u64 cv, Value.slice a n cap, Value.int IntKind.i64 n, Value.int IntKind.i64 (n - 1),
          Value.int IntKind.i64 (((n : Int) - 1) / 64), Value.int IntKind.u64 (((n : Int) - 1) / 64),
          Value.int IntKind.u64 (cv + ((n : Int) - 1) / 64), Value.bool (decide (4294967295 < cv + ((n : Int) - 1) / 64)),
          Value.bool (decide (4294967295 < cv + ((n : Int) - 1) / 64)), Value.slice a n cap,
          Value.slice (some { block := g, off := 0 }) n cap1, Value.slice (some { block := g, off := 0 }) n cap1,
          Value.func (Fn.func 28) #[]
            #[Value.pointer (some { block := w1.heap.size, off := 0 }),
              Value.pointer (some { block := w1.heap.size + 1, off := 0 })],
          chunkV g 0 n x.1, undef, undef, undef, undef, undef, undef, undef, undef, undef, undef, undef, undef, undef, undef,
          undef, undef, undef, undef, undef, undef, undef, undef], defers := [] }) ?assign ?body ?done ?stop
  case assign =>
    intro l x W K hK
    gi_wp2
    exact hK
  case body =>
    rintro l pre x W hI _
    obtain ⟨k, hkn⟩ := x
    obtain ⟨ck, lk, hcl⟩ : ∃ ck lk, Cha.crun key nonce c b (pre.map (·.1)) = (ck, lk) := ⟨_, _, rfl⟩
    have hlk : lk.length = n := by have := Cha.crun_length key nonce c b (pre.map (·.1)); rw [hcl] at this; exact this.trans HE.out.2.2.2.symm
    have hnext : Cha.crun key nonce c b ((pre ++ [(⟨k, hkn⟩ : Blk n)]).map (·.1)) = (ck + 1, Cha.xorN (Cha.block key ck nonce) (64 * k) 64 lk) := by rw [List.map_append]; exact (Cha.crun_snoc _ _ _ _ _ _).trans (by rw [hcl]; rfl)
    rw [hcl] at hI
    have HCL := Lib.hid hcl
    have HLK2 := Lib.hid hlk
    have hb := fun W => block_any key nonce ck W HK.out HN.out
    rw [← HE.out.2.1, ← HE.out.2.2.1] at hb
    have HBK := Lib.hid hb
    have hbl := Cha.block_length key ck nonce
    have HBKL := Lib.hid hbl
    obtain ⟨blk, hblk⟩ : ∃ blk, blk = Cha.block key ck nonce := ⟨_, rfl⟩
    rw [← hblk] at HBK HBKL hnext
    have HNX := Lib.hid hnext
    have HBLK := Lib.hid hblk
    have cC : W.cell? ⟨w.heap.size + 1, 0, none⟩ = some (.int .u32 (wv ck)) := (cell_of_row _ _ _ _ _ _ hI.ctr).trans rfl
    have rK := hI.key
    have rN := hI.nonce
    rw [← HE.out.2.1] at rK
    rw [← HE.out.2.2.1] at rN
    have RK := Lib.hid rK
    have RN := Lib.hid (show W.heap[w.heap.size + 1 + 1]? = _ from rN)
    have HI := Lib.hid hI
    have IK := Lib.hid (show (Try.prog.info? 29).map (·.size) = some kb.size by rw [HE.out.2.1, bytes_size, HK.out]; kernel_rfl)
    have IN := Lib.hid (show (Try.prog.info? 31).map (·.size) = some nb.size by rw [HE.out.2.2.1, bytes_size, HN.out]; kernel_rfl)
    have IB := Lib.hid (show (Try.prog.info? 34).map (·.size) = some (bytes blk).size by rw [bytes_size, HBKL.out]; kernel_rfl)
    have ZB := Lib.hid (show (bytes (List.replicate 64 0)).size = (bytes blk).size by rw [bytes_size, bytes_size, HBKL.out]; rfl)
    obtain ⟨m, hm⟩ : ∃ m, m = min 64 (n - 64 * k) := ⟨_, rfl⟩
    have ev : chunkV g 0 n k = .slice (some ⟨g, 64 * k, none⟩) m m := by rw [chunkV, ← hm, Nat.zero_add]
    simp only [ev]
    have HM := Lib.hid hm
    clear hcl hnext hb hbl hblk rK rN hI hm ev hlk
    gi_wp2_with (first
      | (refine wpListIn_load_row rfl 29 (.tmp 4) rfl (w.heap.size) rfl _ _ _ _ RK.out Try.underlying29 rfl IK.out ?_)
      | (refine wpListIn_load_row rfl 31 (.tmp 6) rfl (w.heap.size + 1 + 1) rfl _ _ _ _ RN.out Try.underlying31 rfl IN.out ?_)
      | (refine ⟨trivial, ?_⟩; gi_at_call 12; refine (CallsIn.inRound l (callsIn_wide.2 (HBK.out _))).mono ?_; rintro e w3 ⟨rfl, hb3⟩; have HB3 := Lib.hid hb3; clear hb3)
      | (refine wpListIn_store_row rfl 34 (.tmp 12) (.tmp 36) rfl _ _ rfl rfl _ _ (heap_alloc_new _ _) IB.out ZB.out (bytes_one _) ?_; rw [World.setRow_alloc_new]))
    have hz3 := HB3.out.size
    have hsW := HI.out.size
    have hX : ∃ X, w3.alloc (.cells (bytes blk) 34) = X ∧ Below W.heap.size W X ∧ X.heap.size = w3.heap.size + 1 ∧ X.heap[w3.heap.size]? = some (.cells (bytes blk) 34 (0, 0)) :=
      ⟨_, rfl, HB3.out.trans (((Below.refl _ w3).alloc (Nat.le_refl _) _).mono hz3), by simp, heap_alloc_new _ _⟩
    obtain ⟨X, hX, hBX, hXs, hXb⟩ := hX
    rw [hX]
    have HX2 := Lib.hid hBX
    have HXB := Lib.hid hXb
    have hgB : g < w2.heap.size := by omega
    have HSX := Lib.hid (HI.out.kept (Kept.ofBelow (l := []) hBX (Nat.le_refl _)) (by omega) (by simp) hgB)
    generalize w3.heap.size = D at *
    clear hX hBX hXb
    gi_loopw [39] (fun s wr => ∃ i : Nat, i ≤ m ∧ s = .int .i64 i ∧ Hid (StI w w2.heap.size g n cap1 key nonce ck (Cha.xorN blk (64 * k) i lk) wr) ∧ Hid (wr.heap[D]? = some (.cells (bytes blk) 34 (0, 0))) ∧ Hid (Kept [g] X wr)) (fun s _ => m - (intOf s).toNat)
    case atStart => exact ⟨0, Nat.zero_le _, rfl, by rw [Cha.xorN_zero]; exact HSX, HXB, Lib.hid (Kept.refl _ _)⟩
    case round =>
      clear HSX HXB
      obtain ⟨i, him, rfl, HSI, HDB, HKP⟩ := hrel
      by_cases hlt : i < m
      · have hmm := HM.out
        have hj : 64 * k + i < lk.length := by rw [HLK2.out]; omega
        obtain ⟨x, hx⟩ : ∃ x, x = lk.getD (64 * k + i) 0 := ⟨_, rfl⟩
        obtain ⟨y, hy⟩ : ∃ y, y = blk.getD i 0 := ⟨_, rfl⟩
        have cg : wr.cell? ⟨g, 64 * k + i, none⟩ = some (.int .u8 (bv x)) := by
          rw [HSI.out.own.get_cell (64 * k + i) (by rw [Cha.xorN_length]; exact hj), Cha.xorN_getD _ _ _ _ _ hj, if_neg (by omega), hx]; rfl
        have fg : wr.frozen? ⟨g, 64 * k + i, none⟩ = false := HSI.out.own.not_frozen _
        have cb : wr.cell? ⟨D, i, none⟩ = some (.int .u8 (bv y)) := (cell_of_row _ _ _ _ _ _ HDB.out).trans (by rw [bytes_get? _ _ (by rw [HBKL.out]; omega), hy])
        have hi64 : i < 64 := by omega
        have hgD : g ≠ D := by have := HB3.out.size; omega
        have hn1 : StI w w2.heap.size g n cap1 key nonce ck (Cha.xorN blk (64 * k) (i + 1) lk) (wr.setCell ⟨g, 64 * k + i, none⟩ (.int .u8 (bv (x ^^^ y)))).drew := by
          rw [Cha.xorN_succ _ _ _ _ hj, hx, hy]
          exact (HSI.out.put _ (by rw [Cha.xorN_length]; exact hj) _).drew
        have HN1 := Lib.hid hn1
        have HN2 := Lib.hid (show (wr.setCell ⟨g, 64 * k + i, none⟩ (.int .u8 (bv (x ^^^ y)))).drew.heap[D]? = some (.cells (bytes blk) 34 (0, 0)) from (heap_setCell_other wr ⟨g, 64 * k + i, none⟩ D _ (fun e => hgD e.symm)).trans HDB.out)
        have HN3 := Lib.hid (show Kept [g] X (wr.setCell ⟨g, 64 * k + i, none⟩ (.int .u8 (bv (x ^^^ y)))).drew from (HKP.out.setCell (by simp) _).drew)
        clear hmm hj hx hy hn1
        have hmx : Try.prog.follows .mixedOrders = true := by kernel_rfl
        gi_wp2
        gi_region_o
        all_goals (gi_wp2; exact ⟨⟨i + 1, by omega, by go_num, HN1, HN2, HN3⟩, by simp [intOf]; omega⟩)
      · obtain rfl : i = m := by omega
        have cC2 : wr.cell? ⟨w.heap.size + 1, 0, none⟩ = some (.int .u32 (wv ck)) := (cell_of_row _ _ _ _ _ _ HSI.out.ctr).trans rfl
        have fC2 : wr.frozen? ⟨w.heap.size + 1, 0, none⟩ = false := frozen_of_row _ _ _ _ _ HSI.out.ctr
        have hadd : IntKind.u32.wrap (wv ck + 1) = wv (ck + 1) := u32_add ck 1
        gi_wp2
        have hmm := HM.out
        have hx : Cha.xorN blk (64 * k) i lk = Cha.xorN blk (64 * k) 64 lk := by rw [hmm, ← HLK2.out, Cha.xorN_min]
        have hgw := HSI.out.own.ltg
        have hkf : Kept [w.heap.size + 1, g] W (wr.setCell ⟨w.heap.size + 1, 0, none⟩ (.int .u32 (wv (ck + 1)))) :=
          (((Kept.ofBelow (l := []) HX2.out (Nat.le_refl _)).mono (by simp)).trans (HKP.out.mono (by simp))).setCell (by simp) _
        refine ⟨KeepsFrom.ofKept hkf (by simp; omega), ⟨hkf.block _ (by omega) (by simp; omega), hkf.block _ (by omega) (by simp; omega)⟩, ?_⟩
        show StI w w2.heap.size g n cap1 key nonce (Cha.crun key nonce c b ((pre ++ [(⟨k, hkn⟩ : Blk n)]).map (·.1))).1 (Cha.crun key nonce c b ((pre ++ [(⟨k, hkn⟩ : Blk n)]).map (·.1))).2 _
        rw [HNX.out]
        have := HSI.out.count (ck + 1)
        rw [hx] at this
        exact this
  case done =>
    rintro D ys W hD hys hI hK
    have e := HE.out.2.2.2
    rw [hys, show (n + 63) / 64 = (b.length + 63) / 64 by rw [e], Cha.crun_all] at hI
    clear e
    have HI := Lib.hid hI
    have HD := Lib.hid hD
    clear hI hD hys
    gi_wp2
    refine ⟨by simp, .inl ⟨_, _, rfl, run_takeDeferred hK, ?_⟩⟩
    obtain ⟨l, hkp, hl⟩ := kept_of_grown (grownBy_putObj' W D (.deferred none)) (fun r e => by cases e; exact HD.out)
    have hI2 := HI.out.kept hkp (by omega) hl (by omega)
    exact ⟨_, by simp [results, Try.results14, go_sem], _, rfl, hI2.own.mono (by omega), hI2.below⟩
  case stop =>
    rintro D c pre W _ _ h _
    exact h.elim
end Go.Proofs.Ytnoilogepkelaaa
