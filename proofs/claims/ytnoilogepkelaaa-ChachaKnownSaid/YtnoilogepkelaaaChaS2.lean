/-
  chacha.Stream: of no bytes; of any bytes.
-/
import Derived.Test.YtnoilogepkelaaaChaS
namespace Go.Proofs.Ytnoilogepkelaaa
set_option linter.unusedVariables false
set_option linter.unusedSimpArgs false
open Go Go.RowKit Go.Shelf
attribute [local go_sem] Oper.semAt_some

theorem OwnB.keptO {E base : Nat} {l : List Nat} {w w' : World} {v : Value} {xs : List (BitVec 8)} (h : OwnB E base w v xs) (hk : Kept l w w') (hl : ∀ k, v.ownBlock = some k → k ∉ l) : OwnB E base w' v xs := by
  refine ⟨h.1, ?_⟩
  rcases h.2 with hn | ⟨g, cap, cur, rfl, h1, hb, h2⟩
  · exact .inl hn
  · refine .inr ⟨g, cap, cur, rfl, h1, ?_, h2⟩
    rw [hk.block g (Array.getElem?_eq_some_iff.1 hb).1 (hl g rfl)]
    exact hb
theorem OwnB.form0 {E base : Nat} {w : World} {v : Value} (h : OwnB E base w v []) : ∃ g a cap, v = .slice a 0 cap ∧ SlForm v g 0 0 ∧ ∀ k, v.ownBlock = some k → k < w.heap.size := by
  rcases h.2 with ⟨rfl, _⟩ | ⟨g, cap, cur, rfl, h1, hb, _⟩
  · exact ⟨0, _, _, rfl, .inl ⟨rfl, rfl⟩, fun k hk => by cases hk⟩
  · exact ⟨g, _, _, rfl, .inr ⟨cap, rfl, Nat.zero_le _, by omega⟩, fun k hk => by simp only [Value.ownBlock, Option.some.injEq] at hk; subst hk; exact (Array.getElem?_eq_some_iff.1 hb).1⟩

set_option maxRecDepth 100000 in
set_option maxHeartbeats 4000000 in
theorem stream_nil (key nonce : List (BitVec 8)) (c : BitVec 32) (v : Value) (w : World) (hs : SlB w v []) :
    Calls Try.prog 14 #[.agg (bytes key), .int .u32 (wv c), .agg (bytes nonce), v] w fun e w' => ∃ v', e = .returned (.tuple #[v', .int .i64 0]) ∧ OwnB 5 w.heap.size w' v' [] ∧ Below w.heap.size w w' := by
  obtain ⟨a, cap, rfl⟩ := hs.len
  have HS := Lib.hid hs
  clear hs
  generalize wv c = cv
  generalize bytes key = kb
  generalize bytes nonce = nb
  refine (callsIn_wide (n := 5)).1 ?_
  refine callsIn_of_wp_marks Try.func14 rfl trivial ?_ rfl
  simp only [Try.ntmps14, List.size_toArray, List.length_cons, List.length_nil, Nat.reduceAdd, Nat.reduceSub, Array.replicate_succ, Array.replicate_zero, List.push_toArray, List.append_toArray, List.nil_append, List.cons_append]
  obtain ⟨W, hW, hB1, hz1, hk1, hc1, hn1⟩ := alloc3 w (.cells kb 29) (.cells #[.int .u32 cv] 22) (.cells nb 31)
  have HX := Lib.hid hB1
  have HS1 := Lib.hid (HS.out.below hB1 (Nat.le_refl _))
  have HW := Lib.hid hW
  clear hB1 hk1 hc1 hn1 hW HS
  gi_wp2_with (first
    | (refine ⟨trivial, ?_⟩; gi_at_call 23; rw [HW.out]; refine (callsIn_wide.2 (clone_any _ [] W HS1.out (by simp))).mono ?_; rintro e w1 ⟨v1, rfl, ho, hb⟩; obtain ⟨g, a1, cap1, rfl, hf, hg⟩ := ho.form0; have HO := Lib.hid ho; have HB := Lib.hid hb; have HF := Lib.hid hf; have HG := Lib.hid hg; clear ho hb hf hg)
    | (refine ⟨trivial, ?_⟩; gi_at_call 24; refine (callsIn_wide.2 (chunk_any _ _ _ _)).mono ?_; rintro e w2 ⟨rfl, hb, hz, hc1, hc2⟩; have HB2 := Lib.hid hb; have HC := Lib.hid (And.intro hc1 hc2); clear hb hc1 hc2))
  have hz0 := HX.out.size
  have hz1' := HB.out.size
  have b0 : Below w.heap.size w w2 := HX.out.trans ((HB.out.trans (HB2.out.mono hz1')).mono hz0)
  have ho2 : OwnB 5 w.heap.size w2 (.slice a1 0 cap1) [] := (HO.out.below HB2.out (Nat.le_refl _)).mono (by omega)
  have hown : OwnFrom w2.heap.size (fun (_ : List (Blk 0)) W => OwnB 5 w.heap.size W (.slice a1 0 cap1) [] ∧ Below w.heap.size w W) := by
    intro s W W' row hs hg' hr
    obtain ⟨l, hk, hl⟩ := kept_of_grown hg' (fun r e => (hr r e).1)
    exact ⟨hs.1.keptO hk (fun k e hm => by have := HG.out k e; have := hl k hm; omega), hs.2.trans (hk.toBelow (fun k hm => by have := hl k hm; omega) hs.2.size)⟩
  refine wpIn_rangeFunc_ownG rfl (by omega) (gf := 28) (lb := #[.pointer (some ⟨w1.heap.size, 0, none⟩), .pointer (some ⟨w1.heap.size + 1, 0, none⟩)]) rfl trivial (enters_of Try.func28 (by kernel_rfl) rfl)
    (chunk_stops Fence.wide _ trivial rfl (by omega) w1.heap.size (w1.heap.size + 1) g 0 0 _ HF.out w2 (by omega) (by omega) HC.out.1 HC.out.2) keepsTwo_t (keepsTwo_b (by omega) (by omega)) (Below.refl _ _) (fun _ => rfl)
    (fun (pre : List (Blk 0)) W => OwnB 5 w.heap.size W (.slice a1 0 cap1) [] ∧ Below w.heap.size w W)
    (fun _ _ _ => False)
    hown
    (fun _ _ _ _ _ hs _ _ => hs)
    ⟨ho2, b0⟩
    (fun x => { tmps := #[], defers := [] }) ?assign ?body ?done ?stop
  case assign =>
    rintro l ⟨x, hx⟩ W K hK
    omega
  case body =>
    rintro l pre ⟨x, hx⟩ W hI _
    omega
  case done =>
    rintro D ys W hD hys hI hK
    have HI := Lib.hid hI
    have HD := Lib.hid hD
    clear hI hD hys
    gi_wp2
    refine ⟨by simp, .inl ⟨_, _, rfl, run_takeDeferred hK, ?_⟩⟩
    have hI2 := hown.putObj (s := []) (.deferred none) HI.out HD.out hK rfl
    exact ⟨_, by simp [results, Try.results14, go_sem], _, rfl, hI2.1, hI2.2⟩
  case stop =>
    rintro D c pre W _ _ h _
    exact h.elim

/-- chacha.Stream of any bytes. -/
def StreamR (w : World) (key nonce b : List (BitVec 8)) (c : BitVec 32) (e : Ending) (w' : World) : Prop :=
  (Cha.fits c b.length = false ∧ e = .returned (.tuple #[.slice none 0 0, .int .i64 13]) ∧ Below w.heap.size w w') ∨
  (Cha.fits c b.length = true ∧ ∃ v', e = .returned (.tuple #[v', .int .i64 0]) ∧ OwnB 5 w.heap.size w' v' (Cha.stream key c nonce b) ∧ Below w.heap.size w w')
theorem stream_good (key nonce b : List (BitVec 8)) (c : BitVec 32) (v : Value) (w : World) (hs : SlB w v b) (hk : key.length = 32) (hn : nonce.length = 12) (hl : b.length ≤ 100000000) (hf : Cha.fits c b.length = true) :
    Calls Try.prog 14 #[.agg (bytes key), .int .u32 (wv c), .agg (bytes nonce), v] w fun e w' => ∃ v', e = .returned (.tuple #[v', .int .i64 0]) ∧ OwnB 5 w.heap.size w' v' (Cha.stream key c nonce b) ∧ Below w.heap.size w w' := by
  by_cases h0 : b.length = 0
  · obtain rfl := List.eq_nil_of_length_eq_zero h0
    exact stream_nil key nonce c v w hs
  · exact stream_ok key nonce b c v w hs hk hn hl (by omega) hf
end Go.Proofs.Ytnoilogepkelaaa
