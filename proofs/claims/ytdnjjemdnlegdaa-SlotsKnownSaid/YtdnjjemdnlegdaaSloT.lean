/-
  The texts of a log: one more.
-/
import Derived.Test.YtdnjjemdnlegdaaSloD
import Derived.Maps.AppendAt
namespace Go.Proofs.Ytdnjjemdnlegdaa
set_option linter.unusedVariables false
set_option linter.unusedSimpArgs false
open Go Go.RowKit
section
variable {P : Program}
/-- append(s, x), x a slice, onto a slice of slices: and where it lies. -/
theorem wpList_append_l1 {ops : Array Oper} {rest : List Oper} {o : Oper} {a : Act} {w : World} {Q : Exit → Act → World → Prop} (hgd : o.guard = none) (s x : Operand) (T E : TypeId)
    (ho : o.op = .call { callee := .builtin .append, args := #[s, x], argTypes := #[T, T] }) (ht : P.underlying T = some (.slice E))
    (hi : (P.info? E).map (fun i => (i.zero, i.size, i.bytes)) = some (some (.slice none 0 0), 1, 24)) (v : Value) (vs : List Value) (hown : OwnL E 0 w v vs) (hs : a.eval s = v) (b : Nat) (u : Value) (hx : a.eval x = .slice (some ⟨b, 0, none⟩) 1 1)
    (hc : w.cell? ⟨b, 0, none⟩ = some u) (hone : u.oneCell' = true) (hlen : vs.length ≤ 1000000)
    (h : ∀ v' w', OwnL E 0 w' v' (vs ++ [u]) → w.grownBy w' v.ownBlock → (v'.ownBlock = v.ownBlock ∨ v'.ownBlock = some w.heap.size) → wpList P ops Q rest (a.put o.dst v') w') : wpList P ops Q (o :: rest) a w := by
  obtain ⟨i, hi0, hz, hsz, hby⟩ : ∃ i, P.info? E = some i ∧ i.zero = some (.slice none 0 0) ∧ i.size = 1 ∧ i.bytes = 24 := by
    cases h : P.info? E with
    | none => simp [h] at hi
    | some i => simp [h] at hi; exact ⟨i, rfl, hi⟩
  refine wpList_append_own_at w hgd s x T ho 0 E i (.slice none 0 0) 1 24 ht hi0 hz hsz hby rfl (by decide) v vs.length vs hs hown ⟨b, 0, none⟩ 1 1 [u] hx rfl ?_ (by simpa using hone) (by unfold maxLen; omega) (by omega) (Nat.zero_le _) ?_
  · intro j y hj
    match j, hj with
    | 0, hj =>
      obtain rfl : u = y := by simpa using hj
      simpa [Addr.add] using hc
  · intro v' w' h1 h2 _ h4
    exact h v' w' (by simpa [OwnL] using h1) h2 h4
end
theorem OwnL.form1 {E base : Nat} {w : World} {v u : Value} {vs : List Value} (h : OwnL E base w v (vs ++ [u])) : ∃ g cap, v = .slice (some ⟨g, 0, none⟩) (vs.length + 1) cap := by
  rcases h.2 with ⟨_, h2⟩ | ⟨g, cap, cur, e, _⟩
  · simp at h2
  · exact ⟨g, cap, by simpa using e⟩
/-- One more text: u, new, in a block from B on; the slice lies where it lay, or anew. -/
theorem Tx.append {w w' : World} {vt v' u : Value} {ts : List (List (BitVec 8))} {t : List (BitVec 8)} {vs : List Value} {p g q B : Nat} (h : Tx w vt ts vs [p, g, q]) (hlt : p < w.heap.size ∧ g < w.heap.size ∧ q < w.heap.size) (hk : Kept ([q] ++ vt.ownBlock.toList) w w')
    (hown : OwnL 22 0 w' v' (vs ++ [u])) (hu : SlB w' u t) (hub : ∀ k, u.ownBlock = some k → w.heap.size ≤ k ∧ k < B) (hB : w.heap.size ≤ B) (hB' : B ≤ w'.heap.size) (hat : v'.ownBlock = vt.ownBlock ∨ v'.ownBlock = some B) : Tx w' v' (ts ++ [t]) (vs ++ [u]) [p, g, q] := by
  have hvl : ∀ k, vt.ownBlock = some k → k < w.heap.size := fun k e => (World.ownsRow.lt h.own k e).2
  have hin : ∀ i, i < ts.length → (vs ++ [u]).getD i undef = vs.getD i undef ∧ (ts ++ [t]).getD i [] = ts.getD i [] := fun i hi => by
    have := h.len
    simp only [List.getD]
    rw [List.getElem?_append_left (by omega), List.getElem?_append_left hi]
    exact ⟨rfl, rfl⟩
  have hla : (vs ++ [u]).getD ts.length undef = u ∧ (ts ++ [t]).getD ts.length [] = t := by
    have := h.len
    simp only [List.getD]
    rw [List.getElem?_append_right (by omega), List.getElem?_append_right (by omega)]
    simp [h.len]
  have hsp : ∀ i, i < (ts ++ [t]).length → i < ts.length ∨ i = ts.length := fun i hi => by simp at hi; omega
  have hvk : ∀ k, v'.ownBlock = some k → vt.ownBlock = some k ∨ k = B := fun k e => by
    rcases hat with h1 | h1
    · exact .inl (h1 ▸ e)
    · exact .inr (by rw [h1] at e; simpa using e.symm)
  refine ⟨hown, by simp [h.len], fun i hi => ?_, fun i hi k hk' => ?_, fun k e => ?_⟩
  · rcases hsp i hi with h1 | rfl
    · rw [(hin i h1).1, (hin i h1).2]
      refine (h.txt i h1).keptV hk fun k e hm => ?_
      obtain ⟨a1, a2, _⟩ := h.apart i h1 k e
      simp only [List.mem_append, List.mem_singleton, Option.mem_toList] at hm
      rcases hm with rfl | hm
      · exact a1 (by simp)
      · exact a2 hm
    · rw [hla.1, hla.2]
      exact hu
  · rcases hsp i hi with h1 | rfl
    · rw [(hin i h1).1] at hk'
      obtain ⟨a1, a2, a3⟩ := h.apart i h1 k hk'
      refine ⟨a1, fun e => ?_, Nat.lt_of_lt_of_le a3 hk.size⟩
      rcases hvk k e with e2 | rfl
      · exact a2 e2
      · omega
    · rw [hla.1] at hk'
      obtain ⟨b1, b2⟩ := hub k hk'
      refine ⟨by simp; omega, fun e => ?_, ?_⟩
      · rcases hvk k e with e2 | rfl
        · have := hvl k e2; omega
        · omega
      · exact Nat.lt_of_lt_of_le b2 hB'
  · rcases hvk k e with e2 | rfl
    · exact h.out k e2
    · simp; omega
section
variable {wc wd w2 : World} {vt v2 u : Value} {vs : List Value} {o : Obj} {p g q : Nat} {l : Slo.L} {t : List (BitVec 8)}
theorem app_kept (hb : Below wc.heap.size wc wd) (hg : (wd.alloc o).grownBy w2 vt.ownBlock) : Kept vt.ownBlock.toList wc w2 :=
  ((Kept.ofBelow hb (Nat.le_refl _)).alloc o).grown hg (fun k e => .inl (by simp [e]))
theorem app_row (hL : LogAt wc q p g vt vs l) (hb : Below wc.heap.size wc wd) (hg : (wd.alloc o).grownBy w2 vt.ownBlock) : w2.heap[q]? = some (.cells (lcells p vt l) 75 (0, 0)) :=
  ((app_kept hb hg).block q hL.lt (fun hm => hL.tx.out q (by simpa using hm) (by simp))).trans hL.row
theorem app_end (hL : LogAt wc q p g vt vs l) (hlp : p < wc.heap.size) (hlg : g < wc.heap.size) (ho : OwnB 5 wc.heap.size wd u t) (hb : Below wc.heap.size wc wd) (hg : (wd.alloc o).grownBy w2 vt.ownBlock) (hown : OwnL 22 0 w2 v2 (vs ++ [u]))
    (hat : v2.ownBlock = vt.ownBlock ∨ v2.ownBlock = some (wd.alloc o).heap.size) :
    (w2.setCell ⟨q, 3, none⟩ v2).heap[q]? = some (.cells (lcells p v2 l) 75 (0, 0)) ∧ Tx (w2.setCell ⟨q, 3, none⟩ v2) v2 (l.texts ++ [t]) (vs ++ [u]) [p, g, q] ∧
    (∀ k, v2.ownBlock = some k → vt.ownBlock = some k ∨ wc.heap.size ≤ k) ∧ Kept ([q] ++ vt.ownBlock.toList) wc (w2.setCell ⟨q, 3, none⟩ v2) := by
  have hz : (wd.alloc o).heap.size = wd.heap.size + 1 := by simp
  have hbs := hb.size
  have hql := hL.lt
  have hgs := hg.size
  have hvq : ∀ k, vt.ownBlock = some k → k ≠ q ∧ k < wc.heap.size := fun k e => ⟨fun h => hL.tx.out k e (by simp [h]), (World.ownsRow.lt hL.tx.own k e).2⟩
  have h2 : ∀ k, v2.ownBlock = some k → vt.ownBlock = some k ∨ k = wd.heap.size + 1 := fun k e => by
    rcases hat with h1 | h1
    · exact .inl (h1 ▸ e)
    · exact .inr (by rw [h1, hz] at e; simpa using e.symm)
  have hK : Kept ([q] ++ vt.ownBlock.toList) wc (w2.setCell ⟨q, 3, none⟩ v2) := ((app_kept hb hg).mono (by intro k hk; simp at hk ⊢; exact .inr hk)).setCell (by simp) _
  refine ⟨heap_setCell_same w2 q 3 _ _ v2 (app_row hL hb hg), ?_, fun k e => ?_, hK⟩
  · refine hL.tx.append (B := wd.heap.size + 1) ⟨hlp, hlg, hql⟩ hK ?_ ?_ ?_ (by omega) ?_ (by rw [← hz]; exact hat)
    · refine hown.kept (l := [q]) ((Kept.refl [q] w2).setCell (by simp) _) fun k e hm => ?_
      simp only [List.mem_singleton] at hm
      rcases h2 k e with h3 | h3
      · exact (hvq k h3).1 hm
      · omega
    · refine ho.sl.keptV (l := [q] ++ vt.ownBlock.toList) ((((Kept.refl _ wd).alloc o).grown hg (fun k e => .inl (by simp [e]))).setCell (by simp) _) fun k e hm => ?_
      have h5 := World.ownsRow.lt ho k e
      simp only [List.mem_append, List.mem_singleton, Option.mem_toList] at hm
      rcases hm with rfl | hm
      · omega
      · have := (hvq k hm).2; omega
    · intro k e
      have h5 := World.ownsRow.lt ho k e
      omega
    · have : (w2.setCell ⟨q, 3, none⟩ v2).heap.size = w2.heap.size := by simp
      omega
  · rcases h2 k e with h3 | h3
    · exact .inl h3
    · exact .inr (by omega)
theorem app_fin {wx : World} {vs2 : List Value} (hrow : wx.heap[q]? = some (.cells (lcells p v2 l) 75 (0, 0))) (htx : Tx wx v2 (l.texts ++ [t]) vs2 [p, g, q]) (hne : q ≠ p ∧ q ≠ g)
    (hs : l.from_ ≤ 16384 ∧ l.sectors ≤ 16384 ∧ l.used ≤ l.sectors ∧ l.texts.length ≤ l.used) (U k : Nat) (hU : l.used = U) (hk : k ≤ l.sectors - U) (h1 : 1 ≤ k) :
    LogAt ((wx.setCell ⟨q, 4, none⟩ (.int .i64 ((U : Int) + k))).drew) q p g v2 vs2 { l with texts := l.texts ++ [t], used := l.used + k } := by
  subst hU
  have hr := heap_setCell_same wx q 4 _ _ (.int .i64 ((l.used : Int) + k)) hrow
  have ht : Tx ((wx.setCell ⟨q, 4, none⟩ (.int .i64 ((l.used : Int) + k))).drew) v2 (l.texts ++ [t]) vs2 [p, g, q] := htx.kept (l' := [q]) (((Kept.refl [q] wx).setCell (by simp) _).drew) (by simp)
  refine ⟨?_, hne, ht, ?_⟩
  · refine hr.trans ?_
    simp [lcells]
  · refine ⟨hs.1, hs.2.1, ?_, ?_⟩
    · show l.used + k ≤ l.sectors
      omega
    · show (l.texts ++ [t]).length ≤ l.used + k
      simp; omega
end
end Go.Proofs.Ytdnjjemdnlegdaa
