/-
  The law SlotsWhole: what holds between two rounds.
-/
import Derived.Test.YtdnjjemdnlegdaaSloM
import Derived.Test.YtdnjjemdnlegdaaSloN
namespace Go.Proofs.Ytdnjjemdnlegdaa
set_option linter.unusedVariables false
set_option linter.unusedSimpArgs false
open Go Go.RowKit

/-- An act's cells. -/
def actC9 (wt wh at_ : Int) (mask : List (BitVec 8)) (v : Value) : List Value := [.int .i64 wt, .int .i64 wh, .int .i64 at_] ++ (bcells mask ++ [v])
/-- A slice of acts, as an argument. -/
def Acts9 (w : World) (a : Option Addr) (len : Nat) : Prop := 0 < len → ∃ b off, a = some ⟨b, off, none⟩ ∧ b < w.heap.size ∧ ∀ i, i < len → ∃ (wt wh at_ : Int) (mask : List (BitVec 8)) (v : Value) (xs : List (BitVec 8)),
  w.rangeAt b (off + i * 20) (actC9 wt wh at_ mask v) ∧ SlB w v xs ∧ mask.length = 16 ∧ (-9223372036854775808 ≤ wt ∧ wt ≤ 9223372036854775807) ∧ (-9223372036854775808 ≤ wh ∧ wh ≤ 9223372036854775807) ∧ (-9223372036854775808 ≤ at_ ∧ at_ ≤ 9223372036854775807)

theorem OwnL.shape {E base : Nat} {w : World} {v : Value} {vs : List Value} (h : OwnL E base w v vs) : ∃ a cap, v = .slice a vs.length cap ∧ vs.length ≤ cap ∧ cap ≤ maxLen := by
  rcases h.sl with ⟨rfl, rfl⟩ | ⟨b, off, cap, rfl, h1, h2, _⟩
  · exact ⟨none, 0, rfl, Nat.le_refl _, by unfold maxLen; omega⟩
  · exact ⟨_, cap, rfl, h1, h2⟩
/-- The texts that a log should hold: a slice of the call's own, of slices that the call was given. -/
structure Want (w wr : World) (v : Value) (ts : List (List (BitVec 8))) (us : List Value) : Prop where
  own : OwnL 22 0 wr v us
  new : ∀ k, v.ownBlock = some k → w.heap.size ≤ k
  len : us.length = ts.length
  txt : ∀ i, i < ts.length → SlB w (us.getD i undef) (ts.getD i [])
/-- The blocks that are not the log's: what lay there when the call began, and the slice of the texts that it should hold. -/
def FW (w : World) (v : Value) : Nat → Prop := fun k => k < w.heap.size ∨ v.ownBlock = some k
theorem Want.lt {w wr : World} {v : Value} {ts : List (List (BitVec 8))} {us : List Value} (h : Want w wr v ts us) (hs : w.heap.size ≤ wr.heap.size) : ∀ k, FW w v k → k < wr.heap.size := fun k hk => by
  rcases hk with h1 | h1
  · omega
  · exact (World.ownsRow.lt h.own k h1).2
theorem OwnL.fr {E base : Nat} {F : Nat → Prop} {w w' : World} {v : Value} {vs : List Value} (h : OwnL E base w v vs) (hf : Fr F w w') (hv : ∀ k, v.ownBlock = some k → F k) : OwnL E base w' v vs := by
  obtain ⟨K, hk, hK⟩ := hf
  exact h.kept hk fun k e hm => hK k hm (hv k e)
theorem Want.fr {w wr w' : World} {v : Value} {ts : List (List (BitVec 8))} {us : List Value} (h : Want w wr v ts us) (hf : Fr (FW w v) wr w') : Want w w' v ts us :=
  ⟨h.own.fr hf fun k e => .inr e, h.new, h.len, h.txt⟩
theorem Want.sls {w wr : World} {v : Value} {ts : List (List (BitVec 8))} {us : List Value} (h : Want w wr v ts us) (hb : Below w.heap.size w wr) : SlS wr v ts := by
  have hl := h.len
  rcases h.own.sl with ⟨rfl, hvs⟩ | ⟨b, off, cap, rfl, h1, h2, h3, h4⟩
  · have h0 : ts = [] := List.eq_nil_of_length_eq_zero (by rw [← hl, hvs]; rfl)
    subst h0
    exact ⟨none, 0, rfl, Nat.le_refl _, by unfold maxLen; omega, fun j hj => absurd hj (Nat.not_lt_zero _)⟩
  · rw [hl] at h1 h4 ⊢
    refine ⟨some ⟨b, off, none⟩, cap, rfl, h1, h2, fun j hj => ⟨b, off, us.getD j undef, rfl, h3, ?_, (h.txt j hj).below hb (Nat.le_refl _)⟩⟩
    have := h4 j hj
    simpa [List.getD] using this
theorem Want.nil (w wr : World) : Want w wr (.slice none 0 0) [] [] := ⟨OwnL.nil _ _ _, fun k e => by simp [Value.ownBlock] at e, rfl, fun i hi => absurd hi (Nat.not_lt_zero _)⟩
/-- One more text that it should hold. -/
theorem want_more {w w3 w5 : World} {p g q : Nat} {d : Dk.D} {l : Slo.L} {v v2 u : Value} {ts : List (List (BitVec 8))} {us : List Value} {t : List (BitVec 8)} {o : Obj} (h : DL (FW w v) w3 p g q d l) (hw : Want w w3 v ts us) (hb : Below w.heap.size w w3)
    (hg : (w3.alloc o).grownBy w5 v.ownBlock) (hown : OwnL 22 0 w5 v2 (us ++ [u])) (hat : v2.ownBlock = v.ownBlock ∨ v2.ownBlock = some (w3.alloc o).heap.size) (hu : SlB w u t) :
    DL (FW w v2) w5 p g q d l ∧ Want w w5 v2 (ts ++ [t]) (us ++ [u]) ∧ Below w.heap.size w w5 := by
  have hz : (w3.alloc o).heap.size = w3.heap.size + 1 := by simp
  have hbs := hb.size
  have h1 := h.below ((Below.refl _ w3).alloc (Nat.le_refl _) o)
  have h2 : DL (fun k => FW w v k ∨ v2.ownBlock = some k) (w3.alloc o) p g q d l := h1.others fun k hk hf => by
    rcases hf with hf | hf
    · exact hf
    · rcases hat with e | e
      · exact .inr (e ▸ hf)
      · rw [e] at hf; simp only [Option.some.injEq] at hf; omega
  have hK : Kept v.ownBlock.toList (w3.alloc o) w5 := (Kept.refl _ (w3.alloc o)).grown hg fun k e => .inl (by simp [e])
  have h3 := h2.kept hK fun k hm => .inl (.inr (by simpa using hm))
  refine ⟨h3.others fun k _ hf => ?_, ⟨hown, fun k e => ?_, by simp [hw.len], fun i hi => ?_⟩, (hb.alloc hbs o).grown hg (by omega) fun k e => hw.new k e⟩
  · rcases hf with hf | hf
    · exact .inl (.inl hf)
    · exact .inr hf
  · rcases hat with h5 | h5
    · exact hw.new k (h5 ▸ e)
    · rw [h5] at e; simp only [Option.some.injEq] at e; omega
  · rw [List.length_append, List.length_cons, List.length_nil] at hi
    have hl := hw.len
    by_cases he : i < ts.length
    · have e1 : (us ++ [u]).getD i undef = us.getD i undef := by simp only [List.getD]; rw [List.getElem?_append_left (by omega)]
      have e2 : (ts ++ [t]).getD i [] = ts.getD i [] := by simp only [List.getD]; rw [List.getElem?_append_left he]
      rw [e1, e2]
      exact hw.txt i he
    · obtain rfl : i = ts.length := by omega
      have e1 : (us ++ [u]).getD ts.length undef = u := by simp only [List.getD]; rw [List.getElem?_append_right (by omega)]; simp [hl]
      have e2 : (ts ++ [t]).getD ts.length [] = t := by simp only [List.getD]; rw [List.getElem?_append_right (by omega)]; simp
      rw [e1, e2]
      exact hu
/-- Between two rounds. -/
structure WS (w wr : World) (p g q : Nat) (v : Value) (d : Dk.D) (l : Slo.L) (want : List (List (BitVec 8))) (us : List Value) (k : Nat) : Prop where
  dl : DL (FW w v) wr p g q d l
  good : Slo.Good d l want k
  want : Want w wr v want us
  below : Below w.heap.size w wr
section
variable {w wr : World} {p g q : Nat} {v : Value} {d : Dk.D} {l : Slo.L} {want : List (List (BitVec 8))} {us : List Value} {k : Nat}
theorem WS.lt (h : WS w wr p g q v d l want us k) : ∀ j, FW w v j → j < wr.heap.size := h.want.lt h.below.size
theorem WS.cut (h : WS w wr p g q v d l want us k) (wh : Int) (h0 : 0 ≤ wh) (h1 : wh ≤ 9223372036854775807) (mask : List (BitVec 8)) (hm : mask.length = 16) :
    Calls Try.prog 18 #[.pointer (some ⟨p, 0, none⟩), .int .i64 wh, .agg (bytes mask)] wr fun e w' => (∃ u, e = .returned u) ∧ WS w w' p g q v (Dk.cut d wh mask).1 l want us k := by
  refine (dk_cut h.dl.disk wh mask hm h1).mono ?_
  rintro e w' ⟨rfl, hD, hK⟩
  have hf := h.dl.frD hK
  exact ⟨⟨_, rfl⟩, h.dl.keptD hK hD, h.good.cut wh h0 mask, h.want.fr hf, h.below.trans (hf.toBelow (fun j hj => .inl hj) h.below.size)⟩
/-- Append: told OK, the log holds the text; else the power is gone, and the log that is opened behind holds the text or does not. -/
theorem WS.append (h : WS w wr p g q v d l want us k) (hk : k < 20) (u : Value) (t : List (BitVec 8)) (hs : SlB w u t) (ht : t.length ≤ 600) :
    Calls Try.prog 30 #[.pointer (some ⟨q, 0, none⟩), u] wr fun e w' => ∃ d' c, e = .returned (.int .i64 c) ∧ DiskAt w' p g d' ∧ Want w w' v want us ∧ Below w.heap.size w w' ∧ (∀ j, FW w v j → j < w'.heap.size) ∧ (¬ FW w v p ∧ ¬ FW w v g) ∧
      ((c = 0 ∧ ∃ l', DL (FW w v) w' p g q d' l' ∧ Slo.Good d' l' (want ++ [t]) (k + 1)) ∨
       (c = 12 ∧ ∃ l', Slo.open_ (Dk.restart d') 0 120 = (some l', 0) ∧ (Slo.Good (Dk.restart d') l' want (k + 1) ∨ Slo.Good (Dk.restart d') l' (want ++ [t]) (k + 1)))) := by
  have hlt := h.dl.ge
  refine (h.dl.append h.lt u t (hs.below h.below (Nat.le_refl _)) fun hne j hj => ?_).mono ?_
  · have := hs.lt hne j hj
    simp only [List.mem_cons, List.not_mem_nil, or_false, not_or]
    exact ⟨fun e => hlt.1 (.inl (by omega)), fun e => hlt.2.1 (.inl (by omega)), fun e => hlt.2.2 (.inl (by omega))⟩
  · rintro e w' ⟨rfl, hDL, hf⟩
    have hb := h.below.trans (hf.toBelow (fun j hj => .inl hj) h.below.size)
    have hw := h.want.fr hf
    refine ⟨_, _, rfl, hDL.disk, hw, hb, hw.lt hb.size, ⟨hlt.1, hlt.2.1⟩, ?_⟩
    rcases h.good.append h.dl.disk.ok hk t ht hDL.disk.ok.left0 with ⟨e0, hg⟩ | ⟨e12, hg⟩
    · exact .inl ⟨e0, _, hDL, hg⟩
    · exact .inr ⟨e12, hg⟩
end
/-- What is known behind an append that was told that the power is gone. -/
structure Gone (w w3 : World) (p g : Nat) (v : Value) (d : Dk.D) (want : List (List (BitVec 8))) (us : List Value) : Prop where
  disk : DiskAt w3 p g d
  want : Want w w3 v want us
  below : Below w.heap.size w w3
  apart : ¬ FW w v p ∧ ¬ FW w v g
section
variable {w w3 : World} {p g : Nat} {v : Value} {d : Dk.D} {want : List (List (BitVec 8))} {us : List Value}
theorem Gone.restart (h : Gone w w3 p g v d want us) : Calls Try.prog 25 #[.pointer (some ⟨p, 0, none⟩)] w3 fun e w' => e = .returned (.int .i64 0) ∧ Gone w w' p g v (Dk.restart d) want us := by
  refine (dk_restart h.disk).mono ?_
  rintro e w' ⟨rfl, hD, hK⟩
  have hf : Fr (FW w v) w3 w' := ⟨[p, g], hK, fun j hm => by
    simp only [List.mem_cons, List.not_mem_nil, or_false] at hm
    rcases hm with rfl | rfl
    · exact h.apart.1
    · exact h.apart.2⟩
  exact ⟨rfl, hD, h.want.fr hf, h.below.trans (hf.toBelow (fun j hj => .inl hj) h.below.size), h.apart⟩
theorem Gone.open_ (h : Gone w w3 p g v d want us) {l' : Slo.L} (ho : Slo.open_ d 0 120 = (some l', 0)) : Calls Try.prog 31 #[.pointer (some ⟨p, 0, none⟩), .int .i64 0, .int .i64 120] w3 fun e w' =>
    ∃ q, e = .returned (.tuple #[.pointer (some ⟨q, 0, none⟩), .int .i64 0]) ∧ DL (FW w v) w' p g q d l' ∧ Want w w' v want us ∧ Below w.heap.size w w' ∧ Below w3.heap.size w3 w' := by
  refine (open_dl h.disk (h.want.lt h.below.size) h.apart 0 120 (by omega) (by omega)).mono ?_
  rintro e w' ⟨hb, ⟨c, h1, _⟩ | ⟨l2, q, h1, rfl, hd⟩⟩
  · rw [ho] at h1; cases h1
  · rw [ho] at h1
    obtain rfl : l' = l2 := by have := congrArg Prod.fst h1; simpa using this
    have hf : Fr (FW w v) w3 w' := Fr.ofBelow hb
    exact ⟨q, rfl, hd, h.want.fr hf, h.below.trans (hb.mono h.below.size), hb⟩
end
theorem WS.restart {w wr : World} {p g q : Nat} {v : Value} {d : Dk.D} {l : Slo.L} {want : List (List (BitVec 8))} {us : List Value} {k : Nat} (h : WS w wr p g q v d l want us k) :
    Calls Try.prog 25 #[.pointer (some ⟨p, 0, none⟩)] wr fun e w' => e = .returned (.int .i64 0) ∧ DL (FW w v) w' p g q (Dk.restart d) l ∧ Gone w w' p g v (Dk.restart d) want us := by
  refine (dk_restart h.dl.disk).mono ?_
  rintro e w' ⟨rfl, hD, hK⟩
  have hf := h.dl.frD hK
  exact ⟨rfl, h.dl.keptD hK hD, hD, h.want.fr hf, h.below.trans (hf.toBelow (fun j hj => .inl hj) h.below.size), ⟨h.dl.ge.1, h.dl.ge.2.1⟩⟩
/-- A list of texts that is new keeps what it reads as. -/
theorem Tx.slsKept {w6 w7 : World} {vo : Value} {ts : List (List (BitVec 8))} {us : List Value} {l K : List Nat} {B : Nat} (h : Tx w6 vo ts us l) (h1 : ∀ k, vo.ownBlock = some k → B ≤ k) (h2 : ∀ i k, (us.getD i undef).ownBlock = some k → B ≤ k) (hk : Kept K w6 w7) (hK : ∀ k, k ∈ K → k < B) : SlS w7 vo ts := by
  have h3 : Tx w7 vo ts us [] := ⟨h.own.kept hk fun k e hm => by have := h1 k e; have := hK k hm; omega, h.len, fun i hi => (h.txt i hi).keptV hk fun k e hm => by have := h2 i k e; have := hK k hm; omega,
    fun i hi k e => ⟨by simp, (h.apart i hi k e).2.1, Nat.lt_of_lt_of_le (h.apart i hi k e).2.2 hk.size⟩, fun k e => by simp⟩
  exact h3.sls
end Go.Proofs.Ytdnjjemdnlegdaa
