/-
  Layer 8's statements: an act's bytes.
-/
import Derived.Test.YtdnjjemdnlegdaaDk6
import Derived.Test.YtdnjjemdnlegdaaDlS
namespace Go.Proofs.Ytdnjjemdnlegdaa
set_option linter.unusedVariables false
set_option linter.unusedSimpArgs false
open Go Go.RowKit

theorem u8_of_nat (n : Nat) : IntKind.u8.wrap (n : Int) = bv (BitVec.ofNat 8 n) := by
  unfold bv
  rw [wrap_u8_mod, BitVec.toNat_ofNat]
  omega
def slLen : Value → Nat
  | .slice _ n _ => n
  | _ => 0

set_option maxHeartbeats 1000000 in
theorem SlB.takeA {w : World} {a : Option Addr} {len cap : Nat} {xs : List (BitVec 8)} (h : SlB w (.slice a len cap) xs) (k : Nat) (hk : k ≤ len) : SlB w (.slice a k cap) (xs.take k) := by
  rcases h with ⟨⟨a', e⟩, rfl⟩ | ⟨b, off, c, e, h1, h2, h3, h4⟩
  · simp only [Value.slice.injEq] at e
    obtain ⟨rfl, rfl, rfl⟩ := e
    obtain rfl : k = 0 := by omega
    exact .inl ⟨⟨_, rfl⟩, by simp⟩
  · simp only [Value.slice.injEq] at e
    obtain ⟨rfl, rfl, rfl⟩ := e
    exact SlB.take (.inr ⟨b, off, cap, rfl, h1, h2, h3, h4⟩) k hk

/-- One new byte. -/
theorem one_new {E : TypeId} (w : World) (n : Int) (x : BitVec 8) (h : n = bv x) : SlB (w.alloc (.cells #[.int .u8 n] E)) (.slice (some ⟨w.heap.size, 0, none⟩) 1 1) [x] := by
  subst h
  exact SlB.block (heapA_new w _ _ rfl) 0 1 [x] (by simp) (by decide) (fun j hj => by
    have : j = 0 := by simp at hj; omega
    subst this
    rfl)

/-- The loop's part: bytes are put behind until there are whole sectors. -/
def DataAt (w : World) (wh : Bool) (ys : List (BitVec 8)) (v : Value) (wr : World) : Prop :=
  ∃ k, k ≤ (if wh = true then Dk.padBy ys.length else 0) ∧ OwnB 5 (w.heap.size + 1) wr v (Dk.padN ys k) ∧ Below w.heap.size w wr ∧ wr.cell? ⟨w.heap.size, 4, none⟩ = some (.bool wh) ∧ w.heap.size < wr.heap.size

set_option maxRecDepth 100000 in
theorem data_any (cs : Array Value) (v : Value) (xs : List (BitVec 8)) (wh : Bool) (w : World) (h3 : cs[3]? = some v) (h4 : cs[4]? = some (.bool wh)) (hs : SlB w v xs) :
    Calls Try.prog 15 #[.agg cs] w (RetB w (Dk.data wh xs)) := by
  obtain ⟨W, hW, hBW, hWs, hWn⟩ := alloc1 w (Obj.cells cs 25)
  have c3 := (cell_of_row W w.heap.size 3 _ _ _ hWn).trans h3
  have c4 := (cell_of_row W w.heap.size 4 _ _ _ hWn).trans h4
  have hsW := hs.below hBW (Nat.le_refl _)
  obtain ⟨a, cap, rfl⟩ := hs.len
  have hb := hs.bounds.2
  have HDA := Lib.hid (show Dk.data wh xs = if wh = true then Dk.padN (xs.take 1024) (Dk.padBy (xs.take 1024).length) else xs.take 1024 from rfl)
  have HB0 := Lib.hid hBW
  generalize Dk.data wh xs = fin at HDA ⊢
  obtain ⟨ys, hys⟩ : ∃ ys, ys = xs.take 1024 := ⟨_, rfl⟩
  rw [← hys] at HDA
  have hyl : ys.length ≤ 1024 := by rw [hys, List.length_take]; omega
  have h1024 : xs.length ≤ 1024 ∨ 1024 < xs.length := by omega
  have hsl : (xs.length ≤ 1024 → SlB W (.slice a xs.length cap) ys) ∧ (1024 < xs.length → SlB W (.slice a 1024 cap) ys) := by
    constructor
    · intro h
      rw [hys, List.take_of_length_le h]
      exact hsW
    · intro h
      rw [hys]
      exact hsW.takeA 1024 (by omega)
  have HSL := Lib.hid hsl
  have HWS := Lib.hid hWs
  have hsz : w.heap.size < W.heap.size := by omega
  clear hs hsW h3 h4 hWn hBW hsl hys hWs
  rcases h1024 with hlen | hlen
  all_goals
    have hsl := by first | exact HSL.out.1 hlen | exact HSL.out.2 hlen
    have HS := Lib.hid hsl
    clear HSL hsl
    generalize xs.length = n at *
    go_enter Try.func15, Try.ntmps15
    go_upto_region 1 with fail
    clear hW
    go_upto_region 2 with (at_builtin; refine wpList_append_b rfl (.tmp 4) (.tmp 11) 22 5 rfl Try.underlying22 info_u8 (w.heap.size + 1) (.slice (some ⟨W.heap.size, 0, none⟩) 0 0) [] (OwnB.mono (World.ownsRow_made W #[] 0 (Nat.le_refl _) (by decide) rfl) (by omega)) rfl _ ys (HS.out.alloc _) rfl (by simp; omega) (by simp; omega) ?_; intro v' w' ho hg hn'; have hb2 := Lib.hid (((HB0.out.alloc (by omega) _)).grown hg (by simp; omega) (by intro k hk; simp [Value.ownBlock] at hk; omega)); have HO := Lib.hid ho; have c4' := (hg.block w.heap.size (by simp; omega) (by simp [Value.ownBlock]; omega)); have hz' := hg.size; clear ho hg hn')
    have h0 : DataAt w wh ys v' w' := ⟨0, Nat.zero_le _, HO.out, hb2.out, (World.cell?_of_block (a := ⟨w.heap.size, 4, none⟩) c4').trans (by rw [World.cell?_alloc_lt _ _ _ (by simpa using hsz)]; exact c4), by simp at hz'; omega⟩
    have H0 := Lib.hid h0
    clear h0 HS HO hb2 c4' hz' c3 c4 HB0 hsz
    go_loopw [3] (fun v wr => DataAt w wh ys v wr) (fun v _ => (if wh = true then Dk.padBy ys.length else 0) + ys.length - slLen v)
    case atStart => exact H0.out
    case round =>
      clear H0
      obtain ⟨k, hk, hO, hB, hc, hz⟩ := hrel
      have hl := Dk.padN_length ys k
      obtain ⟨a', cap', rfl⟩ := hO.sl.len
      rw [hl] at hO ⊢
      have HO := Lib.hid hO
      have HB := Lib.hid hB
      have HL := Lib.hid hl
      clear hO hB hl
      cases wh with
      | false =>
        rw [if_neg (by simp)] at hk
        obtain rfl : k = 0 := by omega
        have hfin : fin = ys := by rw [HDA.out, if_neg (by simp)]
        clear HDA
        subst hfin
        go_wp2
        go_ret
        exact ⟨_, rfl, HO.out.mono (by omega), HB.out⟩
      | true =>
        rw [if_pos rfl] at hk
        have hpad : Dk.padBy ys.length = (128 - ys.length % 128) % 128 := rfl
        by_cases hlt : k < Dk.padBy ys.length
        · have hmod : (((ys.length + k : Nat) : Int) % 128 != 0) = true := by rw [bne_iff_ne]; omega
          have hyb : ys.length + k ≤ 2000 := by omega
          have HP := Lib.hid (show Dk.padN ys (k + 1) = Dk.padN ys k ++ [BitVec.ofNat 8 (ys.length + k)] by rw [Dk.padN, HL.out])
          have hpb : Dk.padBy ys.length + ys.length ≤ 2000 := by omega
          have HK := Lib.hid (show k + 1 ≤ Dk.padBy ys.length ∧ Dk.padBy ys.length + ys.length - (ys.length + k + 1) < Dk.padBy ys.length + ys.length - (ys.length + k) by omega)
          clear hlt hpad hk
          generalize hm : ys.length + k = m at *
          clear hm
          go_wp2_with (at_builtin; refine wpList_append_b rfl (.tmp 21) (.tmp 25) 22 5 rfl Try.underlying22 info_u8 (w.heap.size + 1) (.slice a' m cap') _ (HO.out.alloc _) rfl (.slice (some ⟨wr.heap.size, 0, none⟩) 1 1) [BitVec.ofNat 8 m] (one_new _ _ _ (u8_of_nat m)) rfl (by rw [HL.out]; simp; omega) (by simp; omega) ?_; intro v2 w2 ho hg hn'; have hb2 := Lib.hid ((HB.out.alloc (by omega) _).grown hg (by simp; omega) (fun k hk => Nat.le_of_succ_le (World.ownsRow.lt HO.out k hk).1)); have HO2 := Lib.hid ho; have HG := Lib.hid hg; clear ho hg hn')
          have ho2 := HO2.out
          rw [← HP.out] at ho2
          obtain ⟨a2, c2, e2⟩ := HO2.out.sl.len
          have hsz2 := HG.out.size
          simp at hsz2
          refine ⟨⟨k + 1, by rw [if_pos rfl]; exact HK.out.1, ho2, hb2.out, ?_, by omega⟩, ?_⟩
          · refine (World.cell?_of_block (a := ⟨w.heap.size, 4, none⟩) (HG.out.block w.heap.size (by simp; omega) ?_)).trans ?_
            · intro e
              exact absurd (World.ownsRow.lt HO.out _ e.symm).1 (by omega)
            · rw [World.cell?_alloc_lt _ _ _ (by simpa using hz)]
              exact hc
          · rw [e2]
            simp only [slLen, if_true, List.length_append, HL.out, List.length_singleton]
            exact HK.out.2
        · have hmod : (((ys.length + k : Nat) : Int) % 128 != 0) = false := by rw [bne_eq_false_iff_eq]; omega
          have hke : k = Dk.padBy ys.length := by omega
          have hfin : fin = Dk.padN ys k := by rw [HDA.out, if_pos rfl, hke]
          clear HDA
          subst hfin
          have hyb : ys.length + k ≤ 2000 := by omega
          clear hke hlt hpad
          generalize hm : ys.length + k = m at *
          clear hm
          go_wp2
          go_ret
          exact ⟨_, rfl, HO.out.mono (by omega), HB.out⟩
end Go.Proofs.Ytdnjjemdnlegdaa
