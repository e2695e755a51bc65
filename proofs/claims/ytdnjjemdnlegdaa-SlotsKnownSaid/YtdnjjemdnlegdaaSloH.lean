/-
  What a region's bytes tell, one text behind the other; and a range over a function that keeps its place in a cell of its own.
-/
import Derived.Test.YtdnjjemdnlegdaaSloG
import Derived.RangeFuncWrites
namespace Go.Proofs.Ytdnjjemdnlegdaa
set_option linter.unusedVariables false
set_option linter.unusedSimpArgs false
open Go Go.RowKit
namespace Slo
/-- So far the bytes tell these texts. -/
def Reach (b : List (BitVec 8)) (ts : List (List (BitVec 8))) : Prop :=
  128 * used ts ≤ b.length ∧ ∀ f, ts.length ≤ f → parse f b = (ts ++ (parse (f - ts.length) (b.drop (128 * used ts))).1, (parse (f - ts.length) (b.drop (128 * used ts))).2)
theorem Reach.nil (b : List (BitVec 8)) : Reach b [] := ⟨by simp [used], fun f _ => by simp [used]⟩
theorem Reach.next {b t : List (BitVec 8)} {ts : List (List (BitVec 8))} (h : Reach b ts) (hlt : 128 * used ts < b.length) (hs : slot (b.drop (128 * used ts)) = .text t) : Reach b (ts ++ [t]) := by
  obtain ⟨_, _, h2, h3, _⟩ := slot_text hs
  rw [List.length_drop] at h3
  have hu : used (ts ++ [t]) = used ts + taken t.length := by rw [used_append]; simp [used]
  refine ⟨by rw [hu]; omega, fun f hf => ?_⟩
  rw [List.length_append, List.length_cons, List.length_nil] at hf
  obtain ⟨k, hk⟩ : ∃ k, f - ts.length = k + 1 := ⟨f - ts.length - 1, by omega⟩
  have hne : b.drop (128 * used ts) ≠ [] := by intro e; have := congrArg List.length e; simp at this; omega
  rw [h.2 f (by omega), hk, parse_text _ _ _ hne hs, List.drop_drop, hu]
  rw [show f - (ts ++ [t]).length = k by simp; omega, show 128 * used ts + 128 * taken t.length = 128 * (used ts + taken t.length) by omega]
  simp
theorem Reach.no {b : List (BitVec 8)} {ts : List (List (BitVec 8))} (h : Reach b ts) (hs : slot (b.drop (128 * used ts)) = .no ∨ b.length ≤ 128 * used ts) (n : Nat) (hn : ts.length ≤ n) : parse n b = (ts, true) := by
  rw [h.2 n hn]
  rcases hs with hs | hs
  · rw [parse_no _ _ hs]; simp
  · rw [List.drop_of_length_le hs, parse_nil]; simp
theorem Reach.bad {b : List (BitVec 8)} {ts : List (List (BitVec 8))} (h : Reach b ts) (hlt : 128 * used ts < b.length) (hs : slot (b.drop (128 * used ts)) = .bad) (n : Nat) (hn : ts.length < n) : parse n b = (ts, false) := by
  have hne : b.drop (128 * used ts) ≠ [] := by intro e; have := congrArg List.length e; simp at this; omega
  obtain ⟨k, hk⟩ : ∃ k, n - ts.length = k + 1 := ⟨n - ts.length - 1, by omega⟩
  rw [h.2 n (by omega), hk, parse_bad _ _ hne hs]; simp
end Slo

section
variable {F : Fence} {n : Nat} {P : Program} {σ : Type}
/-- What a round leaves to the iterator: its cell b0, the block g, and whatever it has laid from B on. -/
structure Spares (B b0 g : Nat) (W W' : World) : Prop where
  size : W.heap.size ≤ W'.heap.size
  cap : W'.heap[b0]? = W.heap[b0]?
  data : W'.heap[g]? = W.heap[g]?
  new : ∀ k, B ≤ k → k < W.heap.size → W'.heap[k]? = W.heap[k]?
theorem Spares.trans {B b0 g : Nat} {X Y Z : World} (h : Spares B b0 g X Y) (k : Spares B b0 g Y Z) : Spares B b0 g X Z :=
  ⟨Nat.le_trans h.size k.size, k.cap.trans h.cap, k.data.trans h.data, fun i h1 h2 => (k.new i h1 (Nat.lt_of_lt_of_le h2 h.size)).trans (h.new i h1 h2)⟩
theorem Spares.put {B b0 g l : Nat} (W : World) (o : Obj) (h0 : b0 ≠ l) (h1 : g ≠ l) (h2 : l < B) : Spares B b0 g W (W.putObj l o) :=
  ⟨by simp, World.putObj_heap_other h0, World.putObj_heap_other h1, fun k hk _ => World.putObj_heap_other (by omega)⟩
theorem Spares.alloc {B b0 g : Nat} (W : World) (o : Obj) (h0 : b0 < W.heap.size) (h1 : g < W.heap.size) : Spares B b0 g W (W.alloc o) :=
  ⟨by simp, Below.heap_alloc _ _ _ h0, Below.heap_alloc _ _ _ h1, fun k _ hk => Below.heap_alloc _ _ _ hk⟩
theorem grownBy_none_trans {X Y Z : World} (h : X.grownBy Y none) (k : Y.grownBy Z none) : X.grownBy Z none :=
  ⟨k.os.trans h.os, k.tape.trans h.tape, k.output.trans h.output, Nat.le_trans h.size k.size, fun i hi hn => (k.block i (Nat.lt_of_lt_of_le hi h.size) hn).trans (h.block i hi hn)⟩
theorem grownBy_put {W W' : World} (h : W.grownBy W' none) (l : Nat) (o : Obj) (hl : l < W.heap.size) : (W.putObj l o).grownBy (W'.putObj l o) none :=
  ⟨h.os, h.tape, h.output, by simpa using h.size, fun k hk hn => by
    rw [World.putObj_size] at hk
    by_cases e : k = l
    · subst e
      rw [World.putObj_heap_same hl, World.putObj_heap_same (Nat.lt_of_lt_of_le hl h.size)]
    · rw [World.putObj_heap_other e, World.putObj_heap_other e]
      exact h.block k hk hn⟩

/-- The contract of an iterator that keeps its place in the cell b0: s is the caller's place; R: what may come, T: where it leads. -/
def SeqCap (F : Fence) (n : Nat) (P : Program) (gf : Nat) (lb : Array Value) (b0 g : Nat) (s0 : σ) (R : σ → Array Value → Prop) (T : σ → Array Value → σ → Prop) (S Sp : σ → Prop) (w : World) : Prop :=
  ∀ (l : Nat) (J Jx : σ → World → Prop) (W : World), Below w.heap.size w W → AbidesFrom W.heap.size J → AbidesFrom W.heap.size Jx →
    (∀ s W v, J s W → J s (W.setCell ⟨b0, 0, none⟩ v)) → (∀ s W v, Jx s W → Jx s (W.setCell ⟨b0, 0, none⟩ v)) →
    (∀ s x W0 W1, J s W0 → W0.grownBy W1 none → R s x → YieldAt F (n - 1) P l x W1 fun e W' => (e = .returned (.bool true) ∧ (∃ s', T s x s' ∧ J s' W') ∧ Spares W0.heap.size b0 g W1 W') ∨ (e = .returned (.bool false) ∧ Sp s ∧ Jx s W')) →
    J s0 W → CallsIn F n P gf (#[.func (.yield l) #[] #[]] ++ lb) W fun e W' => (∃ v, e = .returned v) ∧ ((∃ s, S s ∧ J s W') ∨ (∃ s, Sp s ∧ Jx s W'))

/-- A loop's two blocks: the rounds' deferred calls at D, the record behind. -/
structure Two (D : Nat) (r : Loop) (W : World) : Prop where
  col : W.heap[D]? = some (.deferred (some []))
  lp : W.heap[D + 1]? = some (.loop r)
theorem Two.lt {D : Nat} {r : Loop} {W : World} (h : Two D r W) : D + 1 < W.heap.size := (Array.getElem?_eq_some_iff.1 h.lp).1
theorem Two.walk {D B : Nat} {r : Loop} {W W' : World} {row : Option Nat} (h : Two D r W) (hg : W.grownBy W' row) (hr : ∀ r, row = some r → B ≤ r ∧ ∃ o : Obj, W.heap[r]? = some o ∧ o.isWalk = true) : Two D r W' :=
  ⟨(grownBy_keeps hg (fun r e => (hr r e).2) h.col rfl).trans h.col, (grownBy_keeps hg (fun r e => (hr r e).2) h.lp rfl).trans h.lp⟩
theorem Two.cell {D b0 : Nat} {r : Loop} {W : World} (h : Two D r W) (hb : b0 < D) (v : Value) : Two D r (W.setCell ⟨b0, 0, none⟩ v) :=
  ⟨(heap_setCell_other W ⟨b0, 0, none⟩ D v (by simp; omega)).trans h.col, (heap_setCell_other W ⟨b0, 0, none⟩ (D + 1) v (by simp; omega)).trans h.lp⟩
theorem Two.keep {D : Nat} {r : Loop} {W W' : World} (h : Two D r W) (hk : KeepsFrom D W W') : Two D r W' :=
  ⟨hk.same _ _ (Nat.le_refl _) h.col rfl, hk.same _ _ (by omega) h.lp rfl⟩
theorem Two.put {D : Nat} {r r' : Loop} {W : World} (h : Two D r W) : Two D r' (W.putObj (D + 1) (.loop r')) :=
  ⟨(World.putObj_heap_other (by omega)).trans h.col, World.putObj_heap_same h.lt⟩

/-- How the body of a round may be left: on, to the next place; or by return. -/
def capPost (D B b0 g : Nat) (I Ix : σ → World → Prop) (T : σ → Array Value → σ → Prop) (Sp : σ → Prop) (s : σ) (x : Array Value) (W : World) : Exit → Act → World → Prop
  | .normal, _, W' => KeepsFrom D W W' ∧ Spares B b0 g W W' ∧ ∃ s', T s x s' ∧ I s' W'
  | .ret, _, W' => KeepsFrom D W W' ∧ Sp s ∧ Ix s W'
  | _, _, _ => False

theorem wpIn_rangeFunc_cap {g : Operand} {ps : Array Tmp} {assign body : Code} {Q : Exit → Act → World → Prop} {a : Act} {w w0 : World}
    (hro : F.round = none) (h1 : 1 ≤ n) {gf b0 gd : Nat} {lb : Array Value} (hg : a.eval g = .func (.func gf) #[] lb) (hFg : F.fn gf) (eg : ∀ args w, (callFunc gf args).run P w = .ok (.enter gf args) w)
    {s0 : σ} {R : σ → Array Value → Prop} {T : σ → Array Value → σ → Prop} {S Sp : σ → Prop} (hseq : SeqCap F (n - 1) P gf lb b0 gd s0 R T S Sp w0) (hb0 : b0 < w.heap.size) (hgd : gd < w.heap.size) (hbw : Below w0.heap.size w0 w)
    (hps : ∀ s x, R s x → x.size = ps.size)
    (I Ix : σ → World → Prop) (hI : OwnFrom w.heap.size I) (hIx : OwnFrom w.heap.size Ix) (hIc : ∀ s W v, I s W → I s (W.setCell ⟨b0, 0, none⟩ v)) (hIxc : ∀ s W v, Ix s W → Ix s (W.setCell ⟨b0, 0, none⟩ v)) (h0 : I s0 w) (xc : Array Value → Array Value) (tx : TypeId) (a₁ : Nat → Array Value → Act)
    (hassign : ∀ (l : Nat) (s : σ) (x : Array Value) (W : World) (K : Act → World → Prop), R s x → K (a₁ W.heap.size x) (W.alloc (.cells (xc x) tx)) →
      assign.wpIn (F.inRound l) (n - 1 - 1) P (Exit.then K (fun _ _ _ => False)) { tmps := (ps.zip x).foldl (fun t (p, v) => t.setIfInBounds p v) a.tmps, defers := [] } W)
    (hbody : ∀ (l m : Nat) (s : σ) (x : Array Value) (W0 W : World), R s x → I s W0 → W0.grownBy W none → w.heap.size + 2 ≤ W0.heap.size → W0.heap.size ≤ m → W.heap[m]? = some (.cells (xc x) tx (0, 0)) →
      body.wpIn (F.inRound l) (n - 1 - 1) P (capPost w.heap.size W0.heap.size b0 gd I Ix T Sp s x W) (a₁ m x) W)
    (hdone : ∀ (s : σ) (W : World), S s → I s W → W.heap[w.heap.size]? = some (.deferred (some [])) → Q .normal { a with defers := { target := .collected w.heap.size, args := #[] } :: a.defers } W)
    (hstop : ∀ (s : σ) (W : World), Sp s → Ix s W → W.heap[w.heap.size]? = some (.deferred (some [])) → Code.ret.wpIn F n P Q { a with defers := { target := .collected w.heap.size, args := #[] } :: a.defers } W) :
    (Code.rangeFunc g ps assign body).wpIn F n P Q a w := by
  refine wpIn_rangeFunc fun fn hfn => ?_
  rw [hro]
  obtain ⟨D, hD⟩ : ∃ D, w.heap.size = D := ⟨_, rfl⟩
  rw [hD] at hb0 hgd hI hIx hbody hdone hstop
  obtain ⟨rs, hrs⟩ : ∃ rs : LoopState → Option Code → Loop, rs = fun st pe => { state := st, pending := pe, fn := fn, tmps := a.tmps, params := ps, assign := assign, body := body, defers := D } := ⟨_, rfl⟩
  have hT0 : Two D (rs .ready none) ((w.alloc (.deferred (some []))).alloc (.loop (rs .ready none))) := by
    refine ⟨?_, ?_⟩
    · rw [Below.heap_alloc _ _ _ (by simp; omega), ← hD]
      exact World.alloc_heap_new w _
    · have := World.alloc_heap_new (w.alloc (.deferred (some []))) (.loop (rs .ready none))
      rwa [World.size_alloc, hD] at this
  have hI0 : I s0 ((w.alloc (.deferred (some []))).alloc (.loop (rs .ready none))) := hI.alloc _ (hI.alloc _ h0)
  have hB0 : Below w0.heap.size w0 ((w.alloc (.deferred (some []))).alloc (.loop (rs .ready none))) := hbw.trans ((((Below.refl _ w).alloc (Nat.le_refl _) _).alloc (by simp) _).mono hbw.size)
  obtain ⟨W1, hW1⟩ : ∃ W1, (w.alloc (.deferred (some []))).alloc (.loop (rs .ready none)) = W1 := ⟨_, rfl⟩
  rw [hW1] at hT0 hI0 hB0
  refine ⟨D + 1, [{ target := .collected D, args := #[] }], W1, { target := .fn (.func gf) lb, args := #[.func (.yield (D + 1)) #[] #[]] }, W1, gf, #[.func (.yield (D + 1)) #[] #[]] ++ lb, W1, ?_, ?_, ?_, ?_, fun _ => h1, ?_⟩
  · rw [← hW1, hrs, ← hD]
    exact run_enterLoop_outer _ _ _ _ _
  · simp only [resolve, hg]
    simp [go_sem]
  · intro f' hf'
    simp [Target.leads] at hf'
    exact hf' ▸ hFg
  · simp [invoke, go_sem, eg]
  have hsz : D ≤ W1.heap.size := by have := hT0.lt; omega
  have hab : ∀ {K : σ → World → Prop} (r : Loop), OwnFrom D K → AbidesFrom W1.heap.size fun s W => K s W ∧ Two D r W := fun r hK s A B row hs hg' hr =>
    ⟨hK s A B row hs.1 hg' fun k e => by obtain ⟨h1, o, ho, hw⟩ := hr k e; exact ⟨by omega, o, ho, Obj.not_cells_of_walk hw⟩, hs.2.walk hg' hr⟩
  refine (hseq (D + 1) (fun s W => I s W ∧ Two D (rs .ready none) W) (fun s W => Ix s W ∧ Two D (rs .done (some .ret)) W) W1 hB0 (hab _ hI) (hab _ hIx)
    (fun s W v h => ⟨hIc s W v h.1, h.2.cell hb0 v⟩) (fun s W v h => ⟨hIxc s W v h.1, h.2.cell hb0 v⟩) ?_ ⟨hI0, hT0⟩).mono ?_
  · rintro s x W0 W ⟨hi0, ht0⟩ hgr hR
    obtain ⟨W2, hW2⟩ : ∃ W2, W.alloc (.cells (xc x) tx) = W2 := ⟨_, rfl⟩
    have hg2 : W.grownBy W2 none := by rw [← hW2]; exact World.grownBy_alloc W _ none
    have hn2 : W2.heap[W.heap.size]? = some (.cells (xc x) tx (0, 0)) := by rw [← hW2]; exact World.alloc_heap_new W _
    have ht : Two D (rs .ready none) W := ht0.walk (B := 0) hgr (fun r e => by cases e)
    have ht2 : Two D (rs .ready none) W2 := ht.walk (B := 0) hg2 (fun r e => by cases e)
    have hgr2 : W0.grownBy W2 none := grownBy_none_trans hgr hg2
    have h0lt := ht0.lt
    have hgs := hgr.size
    have hy := run_yield (P := P) (args := x) ht.lp (by rw [hrs]; exact hps s x hR)
    rw [hrs] at hy
    refine ⟨fn, _, assign, body, hy, roundIn_of_wpIn hfn (hassign _ s x W _ hR ?_)⟩
    rw [hW2]
    refine ⟨_, run_beginRound ht2.lp (by rw [hrs]), ?_⟩
    have hbz : ({ rs .ready none with state := .busy } : Loop) = rs .busy none := by rw [hrs]
    rw [hbz]
    have htb : Two D (rs .busy none) (W2.putObj (D + 1) (.loop (rs .busy none))) := ht2.put
    have hsp : Spares W0.heap.size b0 gd W (W2.putObj (D + 1) (.loop (rs .busy none))) := by
      refine Spares.trans ?_ (Spares.put W2 _ (by omega) (by omega) h0lt)
      rw [← hW2]
      exact Spares.alloc W _ (by omega) (by omega)
    have hend : ∀ (jump : Option Code) (W3 : World), Two D (rs .busy none) W3 → (Instr.endRound (D + 1) jump).run P W3 = .ok (.bool jump.isNone) (W3.putObj (D + 1) (.loop (rs (if jump.isNone then .ready else .done) jump))) := fun jump W3 h3 => by
      have := run_endRound (P := P) jump h3.lp
      rw [hrs] at this ⊢
      exact this
    have hbd := hbody (D + 1) W.heap.size s x (W0.putObj (D + 1) (.loop (rs .busy none))) (W2.putObj (D + 1) (.loop (rs .busy none))) hR (hI.putObj _ hi0 (by omega) ht0.lp rfl) (grownBy_put hgr2 _ _ h0lt) (by simp; omega) (by simpa using hgs) ((World.putObj_heap_other (by omega)).trans hn2)
    rw [World.putObj_size] at hbd
    refine wpIn_mono hbd ?_
    intro e a3 W3 hp
    match e, hp with
    | .normal, hp =>
      obtain ⟨hk, hkp, s', hT, hi'⟩ := hp
      have ht3 := htb.keep hk
      exact ⟨_, _, hend none W3 ht3, .inl ⟨rfl, ⟨s', hT, hI.putObj _ hi' (by omega) ht3.lp rfl, ht3.put⟩, (hsp.trans hkp).trans (Spares.put W3 _ (by omega) (by omega) h0lt)⟩⟩
    | .ret, hp =>
      obtain ⟨hk, hsp, hix⟩ := hp
      have ht3 := htb.keep hk
      exact ⟨_, _, hend (some .ret) W3 ht3, .inr ⟨rfl, hsp, hIx.putObj _ hix (by omega) ht3.lp rfl, ht3.put⟩⟩
    | .exit _, hp => exact hp.elim
    | .goto _, hp => exact hp.elim
    | .panic _, hp => exact hp.elim
    | .outgrown, hp => exact hp.elim
  · rintro e W2 ⟨⟨v, rfl⟩, h⟩
    rcases h with ⟨s, hS, hi, ht⟩ | ⟨s, hS, hi, ht⟩
    · have he := run_endLoop (P := P) ht.lp (by rw [hrs]; simp)
      rw [hrs] at he
      exact ⟨none, _, he, hdone s _ hS (hI.putObj _ hi (by omega) ht.lp rfl) ((World.putObj_heap_other (by omega)).trans ht.col)⟩
    · have he := run_endLoop (P := P) ht.lp (by rw [hrs]; simp)
      rw [hrs] at he
      exact ⟨some .ret, _, he, hstop s _ hS (hIx.putObj _ hi (by omega) ht.lp rfl) ((World.putObj_heap_other (by omega)).trans ht.col)⟩
end
end Go.Proofs.Ytdnjjemdnlegdaa
