/-
  Slices of slices: what a call owns (OwnL), and append.
-/
import Derived.Test.YtdnjjemdnlegdaaLibC
namespace Go.Proofs.Ytdnjjemdnlegdaa
set_option linter.unusedVariables false
set_option linter.unusedSimpArgs false
open Go Go.RowKit
theorem SlL.block {w : World} {b : Nat} {t : TypeId} {fr : Nat × Nat} (vs : List Value) (h : w.heap[b]? = some (.cells vs.toArray t fr)) (n : Nat) (hn : n = vs.length) (hm : vs.length ≤ 1000) : SlL w (.slice (some ⟨b, 0, none⟩) n n) vs := by
  subst hn
  refine .inr ⟨b, 0, vs.length, rfl, Nat.le_refl _, by unfold maxLen; omega, (Array.getElem?_eq_some_iff.1 h).1, fun j hj => ?_⟩
  rw [cell_of_row w b (0 + j) _ _ _ h, Nat.zero_add]
  simp [hj]
theorem info_sl : (Try.prog.info? 22).map (fun i => (i.zero, i.size, i.bytes)) = some (some (.slice none 0 0), 1, 24) := by kernel_rfl
def OwnL (E base : Nat) (w : World) (v : Value) (vs : List Value) : Prop := w.ownsRow base E 1 v vs.length vs
theorem OwnL.nil (E base : Nat) (w : World) : OwnL E base w (.slice none 0 0) [] := World.ownsRow_nil _ _ _ _
theorem OwnL.sl {E base : Nat} {w : World} {v : Value} {vs : List Value} (h : OwnL E base w v vs) : SlL w v vs := by
  rcases h with ⟨h1, ⟨rfl, h2⟩ | ⟨g, cap, cur, rfl, hb, hg, hn, hm, hs, ht⟩⟩
  · exact .inl ⟨rfl, List.eq_nil_of_length_eq_zero h2⟩
  · refine .inr ⟨g, 0, cap, rfl, hn, hm, (Array.getElem?_eq_some_iff.1 hg).1, fun j hj => ?_⟩
    rw [cell_of_row w g (0 + j) cur E (0, 0) hg, Nat.zero_add]
    have h3 := congrArg (fun l => l[j]?) ht
    simp only [Nat.mul_one] at h3
    rw [List.getElem?_take_of_lt hj, Array.getElem?_toList] at h3
    rw [h3, List.getD, List.getElem?_eq_getElem hj]
    rfl
theorem OwnL.below {E base B : Nat} {w w' : World} {v : Value} {vs : List Value} (h : OwnL E base w v vs) (hb : Below B w w') (hB : w.heap.size ≤ B) : OwnL E base w' v vs := by
  refine ⟨h.1, ?_⟩
  rcases h.2 with hn | ⟨g, cap, cur, rfl, h1, hg, h2⟩
  · exact .inl hn
  · refine .inr ⟨g, cap, cur, rfl, h1, ?_, h2⟩
    rw [hb.block g (by have := (Array.getElem?_eq_some_iff.1 hg).1; omega)]
    exact hg
theorem OwnL.mono {E base base' : Nat} {w : World} {v : Value} {vs : List Value} (h : OwnL E base w v vs) (hB : base' ≤ base) : OwnL E base' w v vs := by
  refine ⟨h.1, ?_⟩
  rcases h.2 with hn | ⟨g, cap, cur, rfl, h1, hg⟩
  · exact .inl hn
  · exact .inr ⟨g, cap, cur, rfl, by omega, hg⟩
theorem OwnL.alloc {E base : Nat} {w : World} {v : Value} {vs : List Value} (h : OwnL E base w v vs) (o : Obj) : OwnL E base (w.alloc o) v vs := h.below ((Below.refl w.heap.size w).alloc (Nat.le_refl _) o) (Nat.le_refl _)
section
variable {P : Program}
/-- append(s, x...) onto a slice of slices of the call's own. -/
theorem wpList_append_l {ops : Array Oper} {rest : List Oper} {o : Oper} {a : Act} {w : World} {Q : Exit → Act → World → Prop} (hgd : o.guard = none) (s x : Operand) (T E : TypeId)
    (ho : o.op = .call { callee := .builtin .append, args := #[s, x], argTypes := #[T, T] }) (ht : P.underlying T = some (.slice E))
    (hi : (P.info? E).map (fun i => (i.zero, i.size, i.bytes)) = some (some (.slice none 0 0), 1, 24)) (base : Nat)
    (v : Value) (vs : List Value) (hown : OwnL E base w v vs) (hs : a.eval s = v) (u : Value) (ys : List Value) (hsl : SlL w u ys) (hone : ∀ y ∈ ys, y.oneCell' = true) (hx : a.eval x = u)
    (hlen : vs.length + ys.length ≤ 1000000) (hbase : base ≤ w.heap.size)
    (h : ∀ v' w', OwnL E base w' v' (vs ++ ys) → w.grownBy w' v.ownBlock → True → wpList P ops Q rest (a.put o.dst v') w') : wpList P ops Q (o :: rest) a w := by
  obtain ⟨i, hi0, hz, hsz, hby⟩ : ∃ i, P.info? E = some i ∧ i.zero = some (.slice none 0 0) ∧ i.size = 1 ∧ i.bytes = 24 := by
    cases h : P.info? E with
    | none => simp [h] at hi
    | some i => simp [h] at hi; exact ⟨i, rfl, hi⟩
  have hm : vs.length + ys.length ≤ maxLen := by unfold maxLen; omega
  rcases hsl with ⟨rfl, rfl⟩ | ⟨b, off, cap, rfl, h1, h2, h3, h4⟩
  · refine wpList_append_own_none hgd s x T ho base E i 1 ht hi0 v vs.length vs hs hown hx ?_
    exact h v w (by simpa using hown) ⟨rfl, rfl, rfl, Nat.le_refl _, fun _ _ _ => rfl⟩ trivial
  · refine wpList_append_own w hgd s x T ho base E i (.slice none 0 0) 1 24 ht hi0 hz hsz hby rfl (by decide) v vs.length vs hs hown ⟨b, off, none⟩ ys.length cap ys hx (by simp) ?_ hone hm (by omega) hbase ?_
    · intro j y hj
      have hlt : j < ys.length := (List.getElem?_eq_some_iff.1 hj).1
      have hadd : (⟨b, off, none⟩ : Addr).add j = ⟨b, off + j, none⟩ := by unfold Addr.add; split <;> simp_all
      rw [hadd, h4 j hlt, List.getD, hj]
      rfl
    · intro v' w' ho' hg' hn'
      refine h v' w' ?_ hg' trivial
      simpa [OwnL] using ho'
end
end Go.Proofs.Ytdnjjemdnlegdaa
