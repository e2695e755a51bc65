/-
  A log in memory: All.
-/
import Derived.Test.YtdnjjemdnlegdaaSloF
namespace Go.Proofs.Ytdnjjemdnlegdaa
set_option linter.unusedVariables false
set_option linter.unusedSimpArgs false
open Go Go.RowKit

/-- What All returns: copies of the texts. -/
def AllR (w : World) (p g q : Nat) (ts : List (List (BitVec 8))) (e : Ending) (w' : World) : Prop :=
  ∃ vo us, e = .returned vo ∧ Tx w' vo ts us [p, g, q] ∧ ((∀ k, vo.ownBlock = some k → w.heap.size ≤ k) ∧ ∀ i k, (us.getD i undef).ownBlock = some k → w.heap.size ≤ k) ∧ Below w.heap.size w w'
structure Outs (w : World) (p g q : Nat) (ts : List (List (BitVec 8))) (vo : Value) (wr : World) : Prop where
  tx : ∃ us, Tx wr vo ts us [p, g, q] ∧ ∀ i k, (us.getD i undef).ownBlock = some k → w.heap.size ≤ k
  new : ∀ k, vo.ownBlock = some k → w.heap.size ≤ k
  below : Below w.heap.size w wr
theorem Outs.more {w wr wd w2 : World} {p g q : Nat} {ts : List (List (BitVec 8))} {vo v2 u : Value} {us : List Value} {o : Obj} {t : List (BitVec 8)} (hlt : p < w.heap.size ∧ g < w.heap.size ∧ q < w.heap.size) (htx : Tx wr vo ts us [p, g, q]) (hnt : ∀ i k, (us.getD i undef).ownBlock = some k → w.heap.size ≤ k) (hnew : ∀ k, vo.ownBlock = some k → w.heap.size ≤ k) (hbe : Below w.heap.size w wr)
    (ho : OwnB 5 wr.heap.size wd u t) (hb : Below wr.heap.size wr wd) (hg : (wd.alloc o).grownBy w2 vo.ownBlock) (hown : OwnL 22 0 w2 v2 (us ++ [u])) (hat : v2.ownBlock = vo.ownBlock ∨ v2.ownBlock = some (wd.alloc o).heap.size) : Outs w p g q (ts ++ [t]) v2 w2 := by
  have hz : (wd.alloc o).heap.size = wd.heap.size + 1 := by simp
  have hbs := hb.size
  have hwr := hbe.size
  have hgs := hg.size
  have hvk : ∀ k, vo.ownBlock = some k → k < wr.heap.size := fun k e => (World.ownsRow.lt htx.own k e).2
  have hK : Kept ([q] ++ vo.ownBlock.toList) wr w2 := ((Kept.ofBelow hb (Nat.le_refl _)).alloc o).grown hg (fun k e => .inl (by simp [e]))
  refine ⟨⟨us ++ [u], htx.append (B := wd.heap.size + 1) ⟨by omega, by omega, by omega⟩ hK hown ?_ ?_ (by omega) (by omega) (by rw [← hz]; exact hat), fun i k e => ?_⟩, fun k e => ?_, ?_⟩
  · refine ho.sl.keptV (l := vo.ownBlock.toList) (((Kept.refl _ wd).alloc o).grown hg (fun k e => .inl (by simp [e]))) fun k e hm => ?_
    have h5 := World.ownsRow.lt ho k e
    have := hvk k (by simpa using hm)
    omega
  · intro k e
    have h5 := World.ownsRow.lt ho k e
    omega
  · rcases getD_more us u i with h1 | h1
    · exact hnt i k (h1 ▸ e)
    · rw [h1] at e
      have h5 := World.ownsRow.lt ho k e
      omega
  · rcases hat with h1 | h1
    · exact hnew k (h1 ▸ e)
    · rw [h1, hz] at e
      simp at e
      omega
  · exact ((hbe.trans (hb.mono hwr)).alloc (by omega) o).grown hg (by omega) (fun k e => hnew k e)

set_option maxRecDepth 100000 in
set_option maxHeartbeats 4000000 in
theorem slo_all {w : World} {q p g : Nat} {vt : Value} {vs : List Value} {l : Slo.L} (h : LogAt w q p g vt vs l) (hp : p < w.heap.size) (hg : g < w.heap.size) (hts : ∀ t ∈ l.texts, t.length ≤ 262144) :
    Calls Try.prog 32 #[.pointer (some ⟨q, 0, none⟩)] w (AllR w p g q l.texts) := by
  have c3 := h.c3
  have H := Lib.hid h
  have HI := Lib.hid (slo_is h)
  have HLT := Lib.hid (And.intro hp (And.intro hg h.lt))
  have hlen := h.tx.len
  have hsm := h.small
  have HTS := Lib.hid (fun i (hi : i < l.texts.length) => (show (l.texts.getD i []).length ≤ 262144 from hts _ (by rw [List.getD, List.getElem?_eq_getElem hi]; exact List.getElem_mem hi)))
  have HST := Lib.hid (Outs.mk ⟨[], Tx.nil w [p, g, q], fun i k e => by simp [List.getD, undef, Value.ownBlock] at e⟩ (fun k e => by simp [Value.ownBlock] at e) (Below.refl _ w) : Outs w p g q (l.texts.take 0) (.slice none 0 0) w)
  rcases h.tx.own.sl with ⟨rfl, hvs⟩ | ⟨b, off, cap, rfl, h1, h2, h3, h4⟩
  · have h0 : l.texts = [] := List.eq_nil_of_length_eq_zero (by rw [← hlen, hvs]; rfl)
    rw [h0] at HST ⊢
    clear h hp hg hlen hsm hts h0
    go_enter Try.func32, Try.ntmps32
    go_wp2_with (go_at_call 51; refine HI.out.mono ?_; rintro e w' ⟨rfl, rfl⟩)
    go_loopw [2, 13] (fun s2 s13 wr => s13 = .int .i64 0 ∧ s2 = .slice none 0 0 ∧ wr = w) (fun _ _ _ => 0)
    case atStart => exact ⟨rfl, rfl, rfl⟩
    case round =>
      obtain ⟨rfl, rfl, rfl⟩ := hrel
      go_wp2
      go_ret
      obtain ⟨us, hu, hn⟩ := HST.out.tx
      exact ⟨_, us, rfl, hu, ⟨HST.out.new, hn⟩, HST.out.below⟩
  · obtain ⟨N, hN⟩ : ∃ N, vs.length = N := ⟨_, rfl⟩
    rw [hN] at h1 h4 c3 hlen
    have HL := Lib.hid hlen
    have HC := Lib.hid (fun W (hW : Below w.heap.size w W) j (hj : j < N) => (hW.cell (p := ⟨b, off + j, none⟩) h3).trans (h4 j hj))
    have HS := Lib.hid (fun W (hW : Below w.heap.size w W) j (hj : j < N) => (h.tx.txt j (by omega)).below hW (Nat.le_refl _))
    have hn : N ≤ 16384 := by omega
    clear h hp hg hlen hsm hts h1 h2 h3 h4 hN
    go_enter Try.func32, Try.ntmps32
    go_wp2_with (go_at_call 51; refine HI.out.mono ?_; rintro e w' ⟨rfl, rfl⟩)
    go_loopw [2, 13] (fun s2 s13 wr => ∃ k : Nat, k ≤ N ∧ s13 = .int .i64 k ∧ Hid (Outs w p g q (l.texts.take k) s2 wr)) (fun _ s13 _ => N - (intOf s13).toNat)
    case atStart => exact ⟨0, by omega, rfl, HST⟩
    case round =>
      obtain ⟨k, hk, rfl, HO⟩ := hrel
      by_cases hlt : k < N
      · have hck := HC.out wr HO.out.below k hlt
        have HSK := Lib.hid (HS.out wr HO.out.below k hlt)
        have HTK := Lib.hid (HTS.out k (by rw [← HL.out]; exact hlt))
        obtain ⟨us, htx, hnt⟩ := HO.out.tx
        have HNT := Lib.hid hnt
        clear hnt
        have HVL := Lib.hid (show us.length ≤ 1000000 by have := htx.len; rw [List.length_take] at this; omega)
        have HLT2 := Lib.hid (show p < w.heap.size ∧ g < w.heap.size ∧ q < w.heap.size from HLT.out)
        have HNX := Lib.hid (show l.texts.take (k + 1) = l.texts.take k ++ [l.texts.getD k []] by
          have hkl : k < l.texts.length := by rw [← HL.out]; exact hlt
          rw [List.take_succ_eq_append_getElem hkl, List.getD, List.getElem?_eq_getElem hkl]; rfl)
        go_wp2_with (first
          | (go_at_call 48; refine (clone_any _ (l.texts.getD k []) _ HSK.out (by have := HTK.out; omega)).mono ?_; rintro e wd ⟨vd, rfl, ho, hb⟩; obtain ⟨a2, cp2, rfl⟩ := ho.sl.len; have HOd := Lib.hid ho; have HBd := Lib.hid hb; clear ho hb)
          | (at_builtin; refine wpList_append_l1 rfl (.tmp 17) (.tmp 20) 47 22 rfl Try.underlying47 info_sl _ us ((htx.own.below HBd.out (Nat.le_refl _)).alloc _) rfl wd.heap.size (.slice a2 _ cp2) rfl (cell_new1 _ _ _) rfl HVL.out ?_; intro v2 w2 ho hg hat; have HO2 := Lib.hid (Outs.more HLT2.out htx HNT.out HO.out.new HO.out.below HOd.out HBd.out hg ho hat); clear ho hg hat))
        refine ⟨⟨k + 1, by omega, by go_num, ?_⟩, by simp [intOf]; omega⟩
        rw [HNX.out]
        exact HO2
      · obtain rfl : k = N := by omega
        go_wp2
        go_ret
        obtain ⟨us, hu, hn⟩ := HO.out.tx
        rw [HL.out, List.take_length] at hu
        exact ⟨_, us, rfl, hu, ⟨HO.out.new, hn⟩, HO.out.below⟩
end Go.Proofs.Ytdnjjemdnlegdaa
