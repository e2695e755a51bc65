/-
  slots.Open: what holds between two rounds.
-/
import Derived.Test.YtdnjjemdnlegdaaSloJ
import Derived.Test.YtdnjjemdnlegdaaInR2
namespace Go.Proofs.Ytdnjjemdnlegdaa
set_option linter.unusedVariables false
set_option linter.unusedSimpArgs false
open Go Go.RowKit

/-- The cells of the struct that is handed over. -/
def cellsOf (x : Array Value) : Array Value := match x.getD 0 undef with | .agg cs => cs | _ => #[]
section
variable {F : Fence} {n : Nat} {P : Program} {σ : Type}
/-- The same, where a struct is handed over, that is laid into a cell of its own. -/
theorem wpIn_rangeFunc_cap1 {g : Operand} {p q : Tmp} {assign body : Code} {Q : Exit → Act → World → Prop} {a : Act} {w w0 : World}
    (hro : F.round = none) (h1 : 1 ≤ n) {gf b0 gd : Nat} {lb : Array Value} (hg : a.eval g = .func (.func gf) #[] lb) (hFg : F.fn gf) (eg : ∀ args w, (callFunc gf args).run P w = .ok (.enter gf args) w)
    {s0 : σ} {R : σ → Array Value → Prop} {T : σ → Array Value → σ → Prop} {S Sp : σ → Prop} (hseq : SeqCap F (n - 1) P gf lb b0 gd s0 R T S Sp w0) (hb0 : b0 < w.heap.size) (hgd : gd < w.heap.size) (hbw : Below w0.heap.size w0 w)
    (hps : ∀ s x, R s x → x.size = 1)
    (I Ix : σ → World → Prop) (hI : OwnFrom w.heap.size I) (hIx : OwnFrom w.heap.size Ix) (hIc : ∀ s W v, I s W → I s (W.setCell ⟨b0, 0, none⟩ v)) (hIxc : ∀ s W v, Ix s W → Ix s (W.setCell ⟨b0, 0, none⟩ v)) (h0 : I s0 w) (tx : TypeId)
    (hassign : ∀ (l : Nat) (s : σ) (x : Array Value) (W : World) (K : Act → World → Prop), R s x → K { tmps := (a.tmps.setIfInBounds p (x.getD 0 undef)).setIfInBounds q (.pointer (some ⟨W.heap.size, 0, none⟩)), defers := [] } (W.alloc (.cells (cellsOf x) tx)) →
      assign.wpIn (F.inRound l) (n - 1 - 1) P (Exit.then K (fun _ _ _ => False)) { tmps := a.tmps.setIfInBounds p (x.getD 0 undef), defers := [] } W)
    (hbody : ∀ (l m : Nat) (s : σ) (x : Array Value) (W0 W : World), R s x → I s W0 → W0.grownBy W none → w.heap.size + 2 ≤ W0.heap.size → W0.heap.size ≤ m → W.heap[m]? = some (.cells (cellsOf x) tx (0, 0)) →
      body.wpIn (F.inRound l) (n - 1 - 1) P (capPost w.heap.size W0.heap.size b0 gd I Ix T Sp s x W) { tmps := (a.tmps.setIfInBounds p (x.getD 0 undef)).setIfInBounds q (.pointer (some ⟨m, 0, none⟩)), defers := [] } W)
    (hdone : ∀ (s : σ) (W : World), S s → I s W → W.heap[w.heap.size]? = some (.deferred (some [])) → Q .normal { a with defers := { target := .collected w.heap.size, args := #[] } :: a.defers } W)
    (hstop : ∀ (s : σ) (W : World), Sp s → Ix s W → W.heap[w.heap.size]? = some (.deferred (some [])) → Code.ret.wpIn F n P Q { a with defers := { target := .collected w.heap.size, args := #[] } :: a.defers } W) :
    (Code.rangeFunc g #[p] assign body).wpIn F n P Q a w := by
  refine wpIn_rangeFunc_cap hro h1 hg hFg eg hseq hb0 hgd hbw (fun s x h => hps s x h) I Ix hI hIx hIc hIxc h0 cellsOf tx (fun m x => { tmps := (a.tmps.setIfInBounds p (x.getD 0 undef)).setIfInBounds q (.pointer (some ⟨m, 0, none⟩)), defers := [] }) ?_ hbody hdone hstop
  intro l s x W K hR hK
  have hx := hps s x hR
  obtain ⟨v, rfl⟩ : ∃ v, x = #[v] := by
    match x, hx with
    | ⟨[v]⟩, _ => exact ⟨v, rfl⟩
  have h := hassign l s #[v] W K hR hK
  have e : (#[p].zip #[v]).foldl (fun t (x : Tmp × Value) => t.setIfInBounds x.1 x.2) a.tmps = a.tmps.setIfInBounds p v := by simp
  rw [show (#[v].getD 0 undef) = v from rfl, ← e] at h
  exact h
end

/-! What no turn of a block that holds no cells touches. -/
section
variable {W W' : World} {row : Option Nat}
theorem SlB.nonCells {v : Value} {xs : List (BitVec 8)} (h : SlB W v xs) (hg : W.grownBy W' row) (hr : ∀ r, row = some r → ∃ o : Obj, W.heap[r]? = some o ∧ o.isCells = false) : SlB W' v xs := by
  rcases h with h | ⟨b, off, cap, e, h1, h2, h3, h4⟩
  · exact .inl h
  · exact .inr ⟨b, off, cap, e, h1, h2, Nat.lt_of_lt_of_le h3 hg.size, fun j hj => cell_kept (h4 j hj) hg hr⟩
theorem cells_nonCells {k : Nat} {cs : Array Value} {t : TypeId} {fr : Nat × Nat} (h : W.heap[k]? = some (.cells cs t fr)) (hg : W.grownBy W' row) (hr : ∀ r, row = some r → ∃ o : Obj, W.heap[r]? = some o ∧ o.isCells = false) : W'.heap[k]? = some (.cells cs t fr) := by
  refine (hg.block k (Array.getElem?_eq_some_iff.1 h).1 fun e => ?_).trans h
  obtain ⟨o, ho, hc⟩ := hr k e.symm
  rw [h] at ho
  cases ho
  cases hc
theorem OwnL.nonCells {E base : Nat} {v : Value} {vs : List Value} (h : OwnL E base W v vs) (hg : W.grownBy W' row) (hr : ∀ r, row = some r → ∃ o : Obj, W.heap[r]? = some o ∧ o.isCells = false) : OwnL E base W' v vs := by
  refine ⟨h.1, ?_⟩
  rcases h.2 with hn | ⟨g, cap, cur, rfl, h1, hb, h2⟩
  · exact .inl hn
  · exact .inr ⟨g, cap, cur, rfl, h1, cells_nonCells hb hg hr, h2⟩
theorem Tx.nonCells {vt : Value} {ts : List (List (BitVec 8))} {vs : List Value} {l : List Nat} (h : Tx W vt ts vs l) (hg : W.grownBy W' row) (hr : ∀ r, row = some r → ∃ o : Obj, W.heap[r]? = some o ∧ o.isCells = false) : Tx W' vt ts vs l :=
  ⟨h.own.nonCells hg hr, h.len, fun i hi => (h.txt i hi).nonCells hg hr, fun i hi k e => ⟨(h.apart i hi k e).1, (h.apart i hi k e).2.1, Nat.lt_of_lt_of_le (h.apart i hi k e).2.2 hg.size⟩, h.out⟩
end

theorem KeepsFrom.ofCells {l : List Nat} {B : Nat} {W W' : World} (h : Kept l W W') (hl : ∀ k, k ∈ l → k < B ∨ ∃ cs t fr, W.heap[k]? = some (.cells cs t fr)) : KeepsFrom B W W' :=
  ⟨h.size, fun k o hB hk ho => (h.block k (Array.getElem?_eq_some_iff.1 hk).1 (fun hm => by
    rcases hl k hm with h1 | ⟨cs, t, fr, h1⟩
    · omega
    · rw [h1] at hk
      cases hk
      cases ho)).trans hk⟩
theorem OwnL.row {E base : Nat} {w : World} {v : Value} {vs : List Value} (h : OwnL E base w v vs) (k : Nat) (hk : v.ownBlock = some k) : ∃ cs t fr, w.heap[k]? = some (.cells cs t fr) := by
  rcases h.2 with ⟨rfl, _⟩ | ⟨g, cap, cur, rfl, h1, hb, h2⟩
  · simp [Value.ownBlock] at hk
  · simp [Value.ownBlock] at hk
    subst hk
    exact ⟨_, _, _, hb⟩
/-- Between two rounds of Open: the log so far lies in q; B, B + 1: the cells for what is returned; q + 1: the variable l; gd: the region's bytes; from D on: what the loop has laid. -/
structure OpI (w : World) (p g q gd D fr n cap : Nat) (b : List (BitVec 8)) (ts : List (List (BitVec 8))) (W : World) : Prop where
  log : ∃ vt vs, LogAt W q p g vt vs ⟨fr, n, ts, Slo.used ts, false⟩ ∧ (∀ k, vt.ownBlock = some k → D ≤ k) ∧ ∀ i, i < ts.length → ∀ k, (vs.getD i undef).ownBlock = some k → D ≤ k
  ret0 : W.heap[w.heap.size]? = some (.cells #[.pointer none] 49 (0, 0))
  ret1 : W.heap[w.heap.size + 1]? = some (.cells #[.int .i64 0] 27 (0, 0))
  ptr : W.heap[q + 1]? = some (.cells #[.pointer (some ⟨q, 0, none⟩)] 49 (0, 0))
  below : Below w.heap.size w W
  data : SlB W (.slice (some ⟨gd, 0, none⟩) b.length cap) b
/-- Behind a round that is left: why there is none. -/
structure OpX (w : World) (W : World) : Prop where
  ret0 : W.heap[w.heap.size]? = some (.cells #[.pointer none] 49 (0, 0))
  ret1 : W.heap[w.heap.size + 1]? = some (.cells #[.int .i64 9] 27 (0, 0))
  below : Below w.heap.size w W
section
variable {w : World} {p g q gd D fr n cap : Nat} {b : List (BitVec 8)}
theorem OpI.own (hD : w.heap.size ≤ D) : OwnFrom D (OpI w p g q gd D fr n cap b) := fun ts W W' row h hg hr => by
  have hr' : ∀ r, row = some r → ∃ o : Obj, W.heap[r]? = some o ∧ o.isCells = false := fun r e => (hr r e).2
  obtain ⟨vt, vs, hl, h1, h2⟩ := h.log
  exact ⟨⟨vt, vs, ⟨cells_nonCells hl.row hg hr', hl.ne, hl.tx.nonCells hg hr', hl.small⟩, h1, h2⟩, cells_nonCells h.ret0 hg hr', cells_nonCells h.ret1 hg hr', cells_nonCells h.ptr hg hr',
    h.below.grown hg h.below.size (fun k e => by have := (hr k e).1; omega), h.data.nonCells hg hr'⟩
theorem OpX.own (hD : w.heap.size ≤ D) : OwnFrom D (fun _ : List (List (BitVec 8)) => OpX w) := fun ts W W' row h hg hr => by
  have hr' : ∀ r, row = some r → ∃ o : Obj, W.heap[r]? = some o ∧ o.isCells = false := fun r e => (hr r e).2
  exact ⟨cells_nonCells h.ret0 hg hr', cells_nonCells h.ret1 hg hr', h.below.grown hg h.below.size (fun k e => by have := (hr k e).1; omega)⟩
theorem OpI.cell {ts : List (List (BitVec 8))} {W : World} {b0 : Nat} (h : OpI w p g q gd D fr n cap b ts W) (hb : b0 < D) (h1 : w.heap.size + 2 ≤ b0) (h2 : b0 ≠ q ∧ b0 ≠ q + 1 ∧ b0 ≠ gd) (v : Value) : OpI w p g q gd D fr n cap b ts (W.setCell ⟨b0, 0, none⟩ v) := by
  have hk : Kept [b0] W (W.setCell ⟨b0, 0, none⟩ v) := (Kept.refl [b0] W).setCell (by simp) v
  have hc : ∀ {k cs t fr}, W.heap[k]? = some (.cells cs t fr) → k ≠ b0 → (W.setCell ⟨b0, 0, none⟩ v).heap[k]? = some (.cells cs t fr) := fun h e => (heap_setCell_other W ⟨b0, 0, none⟩ _ v e).trans h
  obtain ⟨vt, vs, hl, h3, h4⟩ := h.log
  refine ⟨⟨vt, vs, ⟨hc hl.row (fun e => h2.1 e.symm), hl.ne, ⟨hl.tx.own.kept hk fun k e hm => ?_, hl.tx.len, fun i hi => (hl.tx.txt i hi).keptV hk fun k e hm => ?_, fun i hi k e => ⟨(hl.tx.apart i hi k e).1, (hl.tx.apart i hi k e).2.1, Nat.lt_of_lt_of_le (hl.tx.apart i hi k e).2.2 hk.size⟩, hl.tx.out⟩, hl.small⟩, h3, h4⟩,
    hc h.ret0 (by omega), hc h.ret1 (by omega), hc h.ptr (by omega), h.below.setCell (by show w.heap.size ≤ b0; omega) v, h.data.keptV hk fun k e => ?_⟩
  · have := h3 k e
    simp at hm
    omega
  · have := h4 i hi k e
    simp at hm
    omega
  · simp [Value.ownBlock] at e
    simp
    omega
theorem OpX.cell {W : World} {b0 : Nat} (h : OpX w W) (h1 : w.heap.size + 2 ≤ b0) (v : Value) : OpX w (W.setCell ⟨b0, 0, none⟩ v) := by
  have hc : ∀ {k cs t fr}, W.heap[k]? = some (.cells cs t fr) → k ≠ b0 → (W.setCell ⟨b0, 0, none⟩ v).heap[k]? = some (.cells cs t fr) := fun h e => (heap_setCell_other W ⟨b0, 0, none⟩ _ v e).trans h
  exact ⟨hc h.ret0 (by omega), hc h.ret1 (by omega), h.below.setCell (by show w.heap.size ≤ b0; omega) v⟩
theorem OpI.out {ts : List (List (BitVec 8))} {W : World} (h : OpI w p g q gd D fr n cap b ts W) (h1 : w.heap.size + 2 ≤ D) (h2 : w.heap.size + 2 ≤ q) (x y : Value) :
    ∃ vt vs, LogAt ((W.setCell ⟨w.heap.size, 0, none⟩ x).setCell ⟨w.heap.size + 1, 0, none⟩ y) q p g vt vs ⟨fr, n, ts, Slo.used ts, false⟩ ∧ (∀ k, vt.ownBlock = some k → D ≤ k) ∧ ∀ i k, (vs.getD i undef).ownBlock = some k → D ≤ k := by
  have hk : Kept [w.heap.size, w.heap.size + 1] W ((W.setCell ⟨w.heap.size, 0, none⟩ x).setCell ⟨w.heap.size + 1, 0, none⟩ y) := ((Kept.refl [w.heap.size, w.heap.size + 1] W).setCell (by simp) x).setCell (by simp) y
  obtain ⟨vt, vs, hl, h3, h4⟩ := h.log
  refine ⟨vt, vs, ⟨(hk.block q hl.lt (by simp; omega)).trans hl.row, hl.ne, ⟨hl.tx.own.kept hk fun k e hm => ?_, hl.tx.len, fun i hi => (hl.tx.txt i hi).keptV hk fun k e hm => ?_, fun i hi k e => ⟨(hl.tx.apart i hi k e).1, (hl.tx.apart i hi k e).2.1, Nat.lt_of_lt_of_le (hl.tx.apart i hi k e).2.2 hk.size⟩, hl.tx.out⟩, hl.small⟩, h3, fun i k e => ?_⟩
  · have := h3 k e
    simp at hm
    omega
  · have := h4 i hi k e
    simp at hm
    omega
  · by_cases hi : i < ts.length
    · exact h4 i hi k e
    · have hn : vs.getD i undef = undef := by
        simp only [List.getD]
        rw [List.getElem?_eq_none (by have : vs.length = ts.length := hl.tx.len; omega)]
        rfl
      rw [hn] at e
      cases e
theorem LogAt.nonCells {w w' : World} {q p g : Nat} {vt : Value} {vs : List Value} {l : Slo.L} {row : Option Nat} (h : LogAt w q p g vt vs l) (hg : w.grownBy w' row) (hr : ∀ r, row = some r → ∃ o : Obj, w.heap[r]? = some o ∧ o.isCells = false) : LogAt w' q p g vt vs l :=
  ⟨cells_nonCells h.row hg hr, h.ne, h.tx.nonCells hg hr, h.small⟩
/-- One more text: what holds behind the round. -/
theorem OpI.more {ts : List (List (BitVec 8))} {W W9 : World} {t : List (BitVec 8)} {vt v2 u : Value} {vs : List Value} (h : OpI w p g q gd D fr n cap b ts W) (hD : D ≤ W.heap.size) (hq : w.heap.size + 2 ≤ q ∧ q + 1 < D ∧ gd < D ∧ gd ≠ q) (hvt : ∀ k, vt.ownBlock = some k → D ≤ k) (hvs : ∀ i, i < ts.length → ∀ k, (vs.getD i undef).ownBlock = some k → D ≤ k)
    (hlen : vs.length = ts.length) (hk : Kept ([q] ++ vt.ownBlock.toList) W W9) (hl : LogAt W9 q p g v2 (vs ++ [u]) ⟨fr, n, ts ++ [t], Slo.used (ts ++ [t]), false⟩) (hv2 : ∀ k, v2.ownBlock = some k → vt.ownBlock = some k ∨ W.heap.size ≤ k) (hu : ∀ k, u.ownBlock = some k → W.heap.size ≤ k) :
    OpI w p g q gd D fr n cap b (ts ++ [t]) W9 := by
  have hn : ∀ k, k < D → k ≠ q → k ∉ [q] ++ vt.ownBlock.toList := fun k h1 h2 hm => by
    simp only [List.mem_append, List.mem_singleton, Option.mem_toList] at hm
    rcases hm with h3 | h3
    · exact h2 h3
    · have := hvt k h3; omega
  have hc : ∀ {k cs ty fr}, W.heap[k]? = some (.cells cs ty fr) → k < D → k ≠ q → W9.heap[k]? = some (.cells cs ty fr) := fun h1 h2 h3 => (hk.block _ (Array.getElem?_eq_some_iff.1 h1).1 (hn _ h2 h3)).trans h1
  refine ⟨⟨v2, vs ++ [u], hl, fun k e => ?_, fun i hi k e => ?_⟩, hc h.ret0 (by omega) (by omega), hc h.ret1 (by omega) (by omega), hc h.ptr (by omega) (by omega), h.below.trans (hk.toBelow (fun k hm => ?_) h.below.size), h.data.keptV hk fun k e => ?_⟩
  · rcases hv2 k e with h1 | h1
    · exact hvt k h1
    · omega
  · rw [List.length_append, List.length_cons, List.length_nil] at hi
    by_cases he : i < ts.length
    · refine hvs i he k ?_
      rw [← e]
      simp only [List.getD]
      rw [List.getElem?_append_left (by omega)]
    · have : (vs ++ [u]).getD i undef = u := by
        simp only [List.getD]
        rw [List.getElem?_append_right (by omega)]
        simp [show i - vs.length = 0 by omega]
      rw [this] at e
      have := hu k e
      omega
  · simp only [List.mem_append, List.mem_singleton, Option.mem_toList] at hm
    rcases hm with h3 | h3
    · omega
    · have := hvt k h3; omega
  · simp only [Value.ownBlock, Option.some.injEq] at e
    subst e
    exact hn _ hq.2.2.1 hq.2.2.2
theorem OpI.bad {ts : List (List (BitVec 8))} {W : World} (h : OpI w p g q gd D fr n cap b ts W) (hD : w.heap.size + 2 ≤ D) :
    (KeepsFrom D W ((W.setCell ⟨w.heap.size, 0, none⟩ (.pointer none)).setCell ⟨w.heap.size + 1, 0, none⟩ (.int .i64 9)).drew ∧ OpX w ((W.setCell ⟨w.heap.size, 0, none⟩ (.pointer none)).setCell ⟨w.heap.size + 1, 0, none⟩ (.int .i64 9)).drew) ∧
    (KeepsFrom D W ((W.setCell ⟨w.heap.size + 1, 0, none⟩ (.int .i64 9)).setCell ⟨w.heap.size, 0, none⟩ (.pointer none)).drew ∧ OpX w ((W.setCell ⟨w.heap.size + 1, 0, none⟩ (.int .i64 9)).setCell ⟨w.heap.size, 0, none⟩ (.pointer none)).drew) := by
  have hl : ∀ k, k ∈ [w.heap.size, w.heap.size + 1] → k < D ∨ ∃ cs t fr, W.heap[k]? = some (.cells cs t fr) := fun k hk => by simp at hk; omega
  have hl2 : ∀ k, k ∈ [w.heap.size, w.heap.size + 1] → w.heap.size ≤ k := fun k hk => by simp at hk; omega
  have k1 : Kept [w.heap.size, w.heap.size + 1] W ((W.setCell ⟨w.heap.size, 0, none⟩ (.pointer none)).setCell ⟨w.heap.size + 1, 0, none⟩ (.int .i64 9)).drew := (((Kept.refl [w.heap.size, w.heap.size + 1] W).setCell (by simp) _).setCell (by simp) _).drew
  have k2 : Kept [w.heap.size, w.heap.size + 1] W ((W.setCell ⟨w.heap.size + 1, 0, none⟩ (.int .i64 9)).setCell ⟨w.heap.size, 0, none⟩ (.pointer none)).drew := (((Kept.refl [w.heap.size, w.heap.size + 1] W).setCell (by simp) _).setCell (by simp) _).drew
  refine ⟨⟨KeepsFrom.ofCells k1 hl, ?_, ?_, h.below.trans (k1.toBelow hl2 h.below.size)⟩, ⟨KeepsFrom.ofCells k2 hl, ?_, ?_, h.below.trans (k2.toBelow hl2 h.below.size)⟩⟩
  · exact (heap_setCell_other _ ⟨w.heap.size + 1, 0, none⟩ _ _ (by simp)).trans (heap_setCell_same W _ 0 _ _ (.pointer none) h.ret0)
  · exact heap_setCell_same _ _ 0 _ _ (.int .i64 9) ((heap_setCell_other W ⟨w.heap.size, 0, none⟩ _ _ (by simp)).trans h.ret1)
  · exact heap_setCell_same _ _ 0 _ _ (.pointer none) ((heap_setCell_other W ⟨w.heap.size + 1, 0, none⟩ _ _ (by simp)).trans h.ret0)
  · exact (heap_setCell_other _ ⟨w.heap.size, 0, none⟩ _ _ (by simp)).trans (heap_setCell_same W _ 0 _ _ (.int .i64 9) h.ret1)
theorem OpI.fin {ts : List (List (BitVec 8))} {W wx : World} {t : List (BitVec 8)} {vt v2 u : Value} {vs : List Value} {B : Nat} (h : OpI w p g q gd D fr n cap b ts W) (hL : LogAt W q p g vt vs ⟨fr, n, ts, Slo.used ts, false⟩) (hvt : ∀ k, vt.ownBlock = some k → D ≤ k) (hv0 : ∀ k, vt.ownBlock = some k → k < B)
    (hvs : ∀ i, i < ts.length → ∀ k, (vs.getD i undef).ownBlock = some k → D ≤ k) (hB : D ≤ B ∧ B ≤ W.heap.size) (hq : w.heap.size + 2 ≤ q ∧ q + 2 < D ∧ gd < D ∧ gd ≠ q) (hrow : wx.heap[q]? = some (.cells (lcells p v2 ⟨fr, n, ts, Slo.used ts, false⟩) 75 (0, 0)))
    (htx : Tx wx v2 (ts ++ [t]) (vs ++ [u]) [p, g, q]) (hv2 : ∀ k, v2.ownBlock = some k → vt.ownBlock = some k ∨ W.heap.size ≤ k) (hk : Kept ([q] ++ vt.ownBlock.toList) W wx) (hu : ∀ k, u.ownBlock = some k → W.heap.size ≤ k) (U K : Nat) (hU : Slo.used ts = U) (hK : Slo.taken t.length = K) (hfit : K ≤ n - U) :
    KeepsFrom D W ((wx.setCell ⟨q, 4, none⟩ (.int .i64 ((U : Int) + K))).drew) ∧ Spares B (q + 2) gd W ((wx.setCell ⟨q, 4, none⟩ (.int .i64 ((U : Int) + K))).drew) ∧ OpI w p g q gd D fr n cap b (ts ++ [t]) ((wx.setCell ⟨q, 4, none⟩ (.int .i64 ((U : Int) + K))).drew) := by
  have hk9 : Kept ([q] ++ vt.ownBlock.toList) W ((wx.setCell ⟨q, 4, none⟩ (.int .i64 ((U : Int) + K))).drew) := (hk.setCell (by simp) _).drew
  have hn : ∀ k, k ≠ q → (k < D ∨ B ≤ k) → k ∉ [q] ++ vt.ownBlock.toList := fun k h1 h2 hm => by
    simp only [List.mem_append, List.mem_singleton, Option.mem_toList] at hm
    rcases hm with h3 | h3
    · exact h1 h3
    · have := hvt k h3
      have := hv0 k h3
      omega
  have hlt := hL.lt
  refine ⟨KeepsFrom.ofCells hk9 fun k hm => ?_, ⟨hk9.size, hk9.block _ (by omega) (hn _ (by omega) (by omega)), hk9.block _ (by omega) (hn _ (by omega) (by omega)), fun k h1 h2 => hk9.block k h2 (hn k (by omega) (.inr h1))⟩, ?_⟩
  · simp only [List.mem_append, List.mem_singleton, Option.mem_toList] at hm
    rcases hm with h3 | h3
    · exact .inl (by omega)
    · exact .inr (hL.tx.own.row k h3)
  · have h5 := Slo.taken_pos t.length
    have hl9 := app_fin (l := ⟨fr, n, ts, Slo.used ts, false⟩) (t := t) hrow htx hL.ne hL.small U K hU hfit (by omega)
    refine h.more (by omega) ⟨hq.1, by omega, hq.2.2.1, hq.2.2.2⟩ hvt hvs hL.tx.len hk9 ?_ hv2 hu
    have e : Slo.used (ts ++ [t]) = Slo.used ts + K := by rw [Slo.used_append]; simp [Slo.used, hK]
    rw [e]
    exact hl9
theorem below_undrew {B : Nat} {w w' : World} (h : Below B w.drew w') : Below B w w' := ⟨h.os, h.tape, h.output, h.size, h.block⟩
end
end Go.Proofs.Ytdnjjemdnlegdaa
