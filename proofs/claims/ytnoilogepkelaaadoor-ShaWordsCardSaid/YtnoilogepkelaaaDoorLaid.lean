/-
  What the rows list as laid: the two tables of package sha.
-/
import Derived.Test.YtnoilogepkelaaaDoorRows
import Derived.Test.YtnoilogepkelaaaDoorShaM
import Derived.Test.YtnoilogepkelaaaDoorOpen
import Derived.ChangeVars
import Derived.ChangeSame
namespace Go.Proofs.YtnoilogepkelaaaDoor
set_option linter.unusedVariables false
set_option linter.unusedSimpArgs false
open Go Go.RowKit Go.WideShapes Go.ChangeShapes
theorem laid_ints {H : Type} {enc : TypeId × Value → H} {P : Program} {w : World} {sp : Nat → Bool} {held : Bool} {fuel n : Nat} {t e : TypeId} {k : IntKind} {cs : List Value} {q : List MemPlace} (ns : List Int) (ht : P.underlying t = some (.array n e)) (he : P.underlying e = some (.int k))
    (hc : P.cellsOf e = 1) (hct : P.cellsOf t = n) (h : DataW.trod enc P w 0 sp held fuel t cs = some (.agg (ns.map fun i => .lit (.int k i)), q)) : cs = ns.map (Value.int k) := by
  obtain ⟨ys, m, _, hx, hl, hyl, hf⟩ := DataW.trod_array ht h
  have h1 := (Prod.mk.inj hx).1
  have h2 : (ns.map fun i => (DataW.lit (.int k i) : DataW H)) = ys.map (·.1) := by injection h1
  have hnl : ns.length = n := by have := congrArg List.length h2; simpa [hyl] using this
  apply List.ext_getElem?
  intro i
  by_cases hi : i < n
  · have hh := hf i hi
    rw [hc, Nat.mul_one] at hh
    obtain ⟨y, hy⟩ : ∃ y, ys[i]? = some y := ⟨_, List.getElem?_eq_getElem (by omega)⟩
    obtain ⟨a, ha, hya, _⟩ := DataW.trod_int he (hh.trans hy)
    have e1 : cs[i]? = some (.int k a) := by have := congrArg (fun l => l[0]?) ha; simpa [List.getElem?_take, List.getElem?_drop] using this
    have e2 := congrArg (fun l => l[i]?) h2
    simp only [List.getElem?_map, hy, Option.map_some, hya] at e2
    rw [e1, List.getElem?_map]
    cases hn : ns[i]? with
    | none => rw [hn] at e2; cases e2
    | some b =>
      rw [hn] at e2
      simp only [Option.map_some, Option.some.injEq] at e2
      have : b = a := by injection e2 with e3; injection e3
      rw [this]; rfl
  · rw [List.getElem?_eq_none (by omega), List.getElem?_eq_none (by simp; omega)]
theorem starts_ints : (Rows.laid_redwax_sha_starts : DataW Unit) = .agg ((Sha.starts.map wv).map fun i => .lit (.int .u32 i)) := by kernel_rfl
set_option maxRecDepth 100000 in
theorem adds_ints : (Rows.laid_redwax_sha_adds : DataW Unit) = .agg ((Sha.adds.map wv).map fun i => .lit (.int .u32 i)) := by kernel_rfl
theorem g_starts : Tryd.prog.globalNamed "redwax/sha.starts" = some 0 := by kernel_rfl
theorem g_adds : Tryd.prog.globalNamed "redwax/sha.adds" = some 1 := by kernel_rfl
theorem t_starts : (Tryd.prog.globals[0]?).map (·.type) = some 27 := by kernel_rfl
theorem t_adds : (Tryd.prog.globals[1]?).map (·.type) = some 84 := by kernel_rfl
theorem words_ints (xs : List (BitVec 32)) {cs : Array Value} (h : cs.toList = (xs.map wv).map (Value.int .u32)) : cs = words xs := by
  apply Array.toList_inj.1
  rw [h, words, List.map_map]
  rfl
theorem row_of_var {P : Program} {W : World} {n : String} {g : Nat} {cs : Array Value} (hg : P.globalNamed n = some g) (h : W.var? P n = some cs) : ∃ t fr, W.heap[g]? = some (.cells cs t fr) := by
  unfold World.var? at h
  rw [hg] at h
  simp only [Option.bind_some] at h
  split at h
  · rename_i cs' t fr he
    obtain rfl := Option.some.inj h
    exact ⟨_, _, he⟩
  · cases h
theorem vars_of_laid {W : World} (h : laidMet Tryd.prog [("redwax/sha.starts", Rows.laid_redwax_sha_starts), ("redwax/sha.adds", Rows.laid_redwax_sha_adds)] W) :
    W.var? Tryd.prog "redwax/sha.starts" = some (words Sha.starts) ∧ W.var? Tryd.prog "redwax/sha.adds" = some (words Sha.adds) := by
  obtain ⟨ps, ⟨g, t, cs, fuel, p, q, hg, ht, hvar, hd, ⟨g2, t2, cs2, fuel2, p2, q2, hg2, ht2, hvar2, hd2, _, _⟩, _⟩, _⟩ := h
  obtain rfl := Option.some.inj (g_starts.symm.trans hg)
  obtain rfl := Option.some.inj (t_starts.symm.trans ht)
  obtain rfl := Option.some.inj (g_adds.symm.trans hg2)
  obtain rfl := Option.some.inj (t_adds.symm.trans ht2)
  rw [starts_ints] at hd
  rw [adds_ints] at hd2
  have e1 := words_ints Sha.starts (laid_ints _ Tryd.underlying27 Tryd.underlying25 (by kernel_rfl) (by kernel_rfl) hd)
  have e2 := words_ints Sha.adds (laid_ints _ Tryd.underlying84 Tryd.underlying25 (by kernel_rfl) (by kernel_rfl) hd2)
  exact ⟨e1 ▸ hvar, e2 ▸ hvar2⟩
theorem glob_of_vars {W : World} (h : W.var? Tryd.prog "redwax/sha.starts" = some (words Sha.starts) ∧ W.var? Tryd.prog "redwax/sha.adds" = some (words Sha.adds)) : Glob W :=
  ⟨row_of_var g_starts h.1, row_of_var g_adds h.2⟩

def putCells (c : Array Value) : Obj → Obj
  | .cells _ t frozen => .cells c t frozen
  | o => o
noncomputable def laidWorld (os : Os) : World :=
  { World.holding Tryd.prog os ⟨#[], #[], []⟩ with heap := ((World.holding Tryd.prog os ⟨#[], #[], []⟩).heap.modify 0 (putCells (words Sha.starts))).modify 1 (putCells (words Sha.adds)) }
theorem laidWorld_row0 (os : Os) (args : Array Value) : ((laidWorld os).forCall (fun _ _ => 0) ⟨#[], args, []⟩).memory.heap[0]? = some (.cells (words Sha.starts) 27 (0, 0)) := by kernel_rfl
theorem laidWorld_row1 (os : Os) (args : Array Value) : ((laidWorld os).forCall (fun _ _ => 0) ⟨#[], args, []⟩).memory.heap[1]? = some (.cells (words Sha.adds) 84 (0, 0)) := by kernel_rfl
abbrev Ls : List (String × DataW Unit) := [("redwax/sha.starts", Rows.laid_redwax_sha_starts), ("redwax/sha.adds", Rows.laid_redwax_sha_adds)]
theorem words_no_iface (xs : List (BitVec 32)) (j : Nat) (u : TypeId) (v : Value) (h : (words xs)[j]? = some (.iface u v)) : False := by
  by_cases hj : j < xs.length
  · rw [words_get? xs j hj] at h; cases h
  · rw [Array.getElem?_eq_none (by rw [words_size]; omega)] at h; cases h
set_option maxRecDepth 100000 in
theorem laid_world (os : Os) (args : Array Value) : laidMet Tryd.prog Ls ((laidWorld os).forCall (fun _ _ => 0) ⟨#[], args, []⟩).memory := by
  refine ⟨_, ⟨0, 27, words Sha.starts, 8, [], _, g_starts, t_starts, by kernel_rfl, by kernel_rfl, ⟨1, 84, words Sha.adds, 8, [], [], g_adds, t_adds, by kernel_rfl, by kernel_rfl, rfl, rfl⟩, rfl⟩, by decide +kernel, fun b off h => ?_⟩
  have hb : b = 0 ∨ b = 1 := by
    simp only [List.mem_append, MemPlace.row, List.append_nil] at h
    rcases h with h | h
    all_goals
      simp at h
      omega
  rcases hb with rfl | rfl
  · refine ⟨⟨_, _, laidWorld_row0 os args⟩, fun u v hc => ?_⟩
    rw [cell_of_row _ 0 off _ _ _ (laidWorld_row0 os args)] at hc
    exact (words_no_iface Sha.starts off u v hc).elim
  · refine ⟨⟨_, _, laidWorld_row1 os args⟩, fun u v hc => ?_⟩
    rw [cell_of_row _ 1 off _ _ _ (laidWorld_row1 os args)] at hc
    exact (words_no_iface Sha.adds off u v hc).elim
end Go.Proofs.YtnoilogepkelaaaDoor
