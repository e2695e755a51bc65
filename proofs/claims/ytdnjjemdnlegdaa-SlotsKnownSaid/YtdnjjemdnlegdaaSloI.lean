/-
  slots.all: the iterator over a region's slots.
-/
import Derived.Test.YtdnjjemdnlegdaaRnd
import Derived.RangeFuncNested
import Derived.RangeFuncBound
import Derived.Shelf.Abstract
import Derived.Shelf.RegionOpen
import Derived.WalkKit
import Derived.OwnWalkIn
import Derived.TacticsInMore
import Derived.LoopNIn
import Derived.LoopIn
namespace Go.Proofs.Ytdnjjemdnlegdaa
set_option linter.unusedVariables false
set_option linter.unusedSimpArgs false
open Go Go.RowKit Go.Shelf
attribute [local go_sem] Oper.semAt_some

/-- slots.all(b): b is boxed; the function value captures the box. -/
theorem all_box (a : Option Addr) (len cap : Nat) (w : World) : Calls Try.prog 55 #[.slice a len cap] w fun e w' =>
    e = .returned (.func (.func 65) #[] #[.pointer (some ⟨w.heap.size, 0, none⟩)]) ∧ Below w.heap.size w w' ∧ w'.heap.size = w.heap.size + 1 ∧ w'.heap[w.heap.size]? = some (.cells #[.slice a len cap] 22 (0, 0)) := by
  obtain ⟨W, hW, h1, h2, h3⟩ := alloc1 w (.cells #[.slice a len cap] 22)
  have HX := Lib.hid (And.intro hW (And.intro h1 (And.intro h2 h3)))
  clear hW h1 h2 h3
  go_enter Try.func55, Try.ntmps55
  go_wp2
  go_ret
  obtain ⟨hW, h1, h2, h3⟩ := HX.out
  rw [hW]
  exact ⟨rfl, h1, h2, h3⟩

/-- What comes of the place ts: the slot behind the texts ts of the bytes b. -/
def SlR (b : List (BitVec 8)) (g o cap : Nat) (ts : List (List (BitVec 8))) (x : Array Value) : Prop :=
  Slo.Reach b ts ∧ 128 * Slo.used ts < b.length ∧ foundB (Slo.slot (b.drop (128 * Slo.used ts))) = true ∧ x = #[.agg (foundV g (o + 128 * Slo.used ts) (cap - 128 * Slo.used ts) (Slo.slot (b.drop (128 * Slo.used ts))))]
def SlT (b : List (BitVec 8)) (ts : List (List (BitVec 8))) (_ : Array Value) (ts' : List (List (BitVec 8))) : Prop := ∃ t, Slo.slot (b.drop (128 * Slo.used ts)) = .text t ∧ ts' = ts ++ [t]
theorem grown_of_below {w w' : World} {B : Nat} (h : Below B w w') (hB : w.heap.size ≤ B) : w.grownBy w' none := ⟨h.os, h.tape, h.output, h.size, fun k hk _ => h.block k (by omega)⟩
theorem below_of_grown {w w' : World} (h : w.grownBy w' none) : Below w.heap.size w w' := ⟨h.os, h.tape, h.output, h.size, fun k hk => h.block k hk (by simp)⟩
theorem box_cell {w : World} {b0 : Nat} {v : Value} (h : w.heap[b0]? = some (.cells #[v] 22 (0, 0))) : w.cell? ⟨b0, 0, none⟩ = some v ∧ w.frozen? ⟨b0, 0, none⟩ = false := ⟨cell_of_row w b0 0 _ _ _ h, frozen_of_row w b0 0 _ _ h⟩
theorem SlB.blk {w w' : World} {g o len cap : Nat} {xs : List (BitVec 8)} (h : SlB w (.slice (some ⟨g, o, none⟩) len cap) xs) (hb : w'.heap[g]? = w.heap[g]?) (hs : w.heap.size ≤ w'.heap.size) : SlB w' (.slice (some ⟨g, o, none⟩) len cap) xs := by
  rcases h with h | ⟨b', off', cap', e, h1, h2, h3, h4⟩
  · exact .inl h
  · simp only [Value.slice.injEq, Option.some.injEq, Addr.mk.injEq] at e
    obtain ⟨⟨rfl, rfl, _⟩, rfl, rfl⟩ := e
    exact .inr ⟨g, o, cap, rfl, h1, h2, Nat.lt_of_lt_of_le h3 hs, fun j hj => (World.cell?_of_block (a := ⟨g, o + j, none⟩) hb).trans (h4 j hj)⟩

set_option maxRecDepth 100000 in
set_option maxHeartbeats 4000000 in
theorem all1_in (n l b0 g o cap m : Nat) (hn : 2 ≤ n) (b : List (BitVec 8)) (hm : b.length = 128 * m) (hm0 : m ≤ 20000) (hlc : b.length ≤ cap) (hne : b0 ≠ g) (J Jx : List (List (BitVec 8)) → World → Prop)
    (W : World) (hJ : AbidesFrom W.heap.size J) (hJc : ∀ s W v, J s W → J s (W.setCell ⟨b0, 0, none⟩ v))
    (hY : ∀ s x W0 W1, J s W0 → W0.grownBy W1 none → SlR b g o cap s x → YieldAt Fence.wide (n - 1) Try.prog l x W1 fun e W' => (e = .returned (.bool true) ∧ (∃ s', SlT b s x s' ∧ J s' W') ∧ Spares W0.heap.size b0 g W1 W') ∨ (e = .returned (.bool false) ∧ Slo.parse m b = (s, false) ∧ Jx s W'))
    (hb0 : W.heap[b0]? = some (.cells #[.slice (some ⟨g, o, none⟩) b.length cap] 22 (0, 0))) (hs : SlB W (.slice (some ⟨g, o, none⟩) b.length cap) b) (h0 : J [] W) :
    CallsIn Fence.wide n Try.prog 65 #[.func (.yield l) #[] #[], .pointer (some ⟨b0, 0, none⟩)] W fun e W' => (∃ v, e = .returned v) ∧
      ((∃ s, Slo.parse m b = (s, true) ∧ J s W') ∨ (∃ s, Slo.parse m b = (s, false) ∧ Jx s W')) := by
  refine callsIn_of_wp Try.func65 rfl trivial ?_ rfl
  simp only [Try.ntmps65, List.size_toArray, List.length_cons, List.length_nil, Nat.reduceAdd, Nat.reduceSub, Array.replicate_succ, Array.replicate_zero, List.push_toArray, List.append_toArray, List.nil_append, List.cons_append]
  gi_wp2
  gi_loopw [4] (fun _ wr => ∃ (ts : List (List (BitVec 8))) (V : Value), Hid (J ts wr) ∧ Hid (Slo.Reach b ts) ∧ Hid (W.heap.size ≤ wr.heap.size) ∧ Hid (wr.heap[g]? = W.heap[g]?) ∧ Hid (wr.heap[b0]? = some (.cells #[V] 22 (0, 0))) ∧
      ((128 * Slo.used ts < b.length ∧ V = .slice (some ⟨g, o + 128 * Slo.used ts, none⟩) (b.length - 128 * Slo.used ts) (cap - 128 * Slo.used ts)) ∨ (b.length ≤ 128 * Slo.used ts ∧ ∃ a c, V = .slice a 0 c)))
    (fun _ wr => match wr.cell? ⟨b0, 0, none⟩ with | some (.slice _ n _) => n | _ => 0)
  case atStart =>
    refine ⟨[], _, Lib.hid h0, Lib.hid (Slo.Reach.nil b), Lib.hid (Nat.le_refl _), Lib.hid rfl, Lib.hid hb0, ?_⟩
    by_cases hz : b.length = 0
    · exact .inr ⟨by simp [Slo.used, hz], _, _, by rw [hz]⟩
    · exact .inl ⟨by simp [Slo.used]; omega, by simp [Slo.used]⟩
  case round =>
    obtain ⟨ts, V, HJ, HR, HZ, HG, HB, hV⟩ := hrel
    obtain ⟨cB, fB⟩ := box_cell HB.out
    rcases hV with ⟨hlt, rfl⟩ | ⟨hle, a, c, rfl⟩
    · have HLT := Lib.hid hlt
      have hdl : (b.drop (128 * Slo.used ts)).length = b.length - 128 * Slo.used ts := List.length_drop
      have hsb : SlB wr (.slice (some ⟨g, o + 128 * Slo.used ts, none⟩) (b.length - 128 * Slo.used ts) (cap - 128 * Slo.used ts)) (b.drop (128 * Slo.used ts)) := (hs.blk HG.out HZ.out).drop (128 * Slo.used ts) (by omega)
      have hu := HR.out.1
      have HSL := Lib.hid (slot_any (b.drop (128 * Slo.used ts)) g (o + 128 * Slo.used ts) (b.length - 128 * Slo.used ts) (cap - 128 * Slo.used ts) wr hsb (by omega) (by omega))
      have hfl : g < wr.heap.size ∧ b0 < wr.heap.size := ⟨(show g < wr.heap.size from by rcases hsb with ⟨⟨a, e⟩, _⟩ | ⟨b', off', cap', e, _, _, h, _⟩ <;> simp at e <;> omega), (Array.getElem?_eq_some_iff.1 HB.out).1⟩
      have HFL := Lib.hid hfl
      obtain ⟨F, hF⟩ : ∃ F, Slo.slot (b.drop (128 * Slo.used ts)) = F := ⟨_, rfl⟩
      rw [hF] at HSL
      have HF := Lib.hid hF
      obtain ⟨L, hL⟩ : ∃ L, b.length - 128 * Slo.used ts = L := ⟨_, rfl⟩
      obtain ⟨C, hC⟩ : ∃ C, cap - 128 * Slo.used ts = C := ⟨_, rfl⟩
      obtain ⟨O, hO⟩ : ∃ O, o + 128 * Slo.used ts = O := ⟨_, rfl⟩
      rw [hL, hC, hO] at HSL cB HB
      have HN := Lib.hid (And.intro hL (And.intro hC hO))
      have hL0 : 0 < L := by omega
      clear hlt hdl hsb hu hfl hF hL hC hO
      have hn1 : 1 ≤ n := by omega
      have HCB := Lib.hid cB
      have HIF := Lib.hid (fun (cs : Array Value) (h : cs.size = 2) => (show (Try.prog.info? 98).map (·.size) = some cs.size by rw [h]; kernel_rfl))
      rcases F with _ | _ | tx
      · simp only [foundV, foundB] at HSL
        refine wpIn_wide.2 ?_
        go_wp2_with (first
          | (go_at_call 66; refine HSL.out.mono ?_; rintro e w2 ⟨rfl, hb⟩; have HB2 := Lib.hid hb; clear hb)
          | (refine wpList_store_row rfl 98 (.tmp 3) (.tmp 11) rfl _ _ rfl rfl _ _ (heap_alloc_new _ _) (HIF.out _ rfl) rfl (by kernel_rfl) ?_; rw [World.setRow_alloc_new]))
        refine bodyPost_ret (results_none rfl _ _ _) rfl ?_
        exact ⟨⟨_, rfl⟩, .inl ⟨ts, HR.out.no (.inl HF.out) m (by have := Slo.used_ge ts; have := HR.out.1; omega), hJ ts wr _ none HJ.out (grown_of_below (HB2.out.alloc HB2.out.size _) (Nat.le_refl _)) (fun r e => by cases e)⟩⟩
      · simp only [foundV, foundB] at HSL
        gi_wp2_with (first
          | (refine ⟨trivial, ?_⟩; gi_at_call 66; refine (callsIn_wide.2 HSL.out).mono ?_; rintro e w2 ⟨rfl, hb⟩; have HB2 := Lib.hid hb; clear hb)
          | (refine wpListIn_store_row rfl 98 (.tmp 3) (.tmp 11) rfl _ _ rfl rfl _ _ (heap_alloc_new _ _) (HIF.out _ rfl) rfl (by kernel_rfl) ?_; rw [World.setRow_alloc_new]))
        obtain ⟨W1, hW1⟩ : ∃ W1, w2.alloc (.cells #[.slice none 0 0, .int .i64 9] 98) = W1 := ⟨_, rfl⟩
        rw [hW1]
        have hx : SlR b g o cap ts #[.agg #[.slice none 0 0, .int .i64 9]] := ⟨HR.out, HLT.out, by rw [HF.out]; rfl, by rw [HF.out]; rfl⟩
        obtain ⟨fn, tmps, assign, body, hy, hRn⟩ := hY ts _ wr W1 HJ.out (by rw [← hW1]; exact grown_of_below (HB2.out.alloc HB2.out.size _) (Nat.le_refl _)) hx
        rw [hy, Oper.uponIn_round]
        refine ⟨fun _ => hn1, hRn.mono ?_⟩
        rintro e W3 (⟨rfl, ⟨s', ⟨t, ht, _⟩, _⟩, _⟩ | ⟨rfl, hp, hJx⟩)
        · rw [HF.out] at ht
          cases ht
        · have HP := Lib.hid (And.intro hp hJx)
          clear hp hJx hy hRn hx hW1 HB2 HSL HB
          gi_wp2
          refine bodyPost_ret (results_none rfl _ _ _) rfl ?_
          exact ⟨⟨_, rfl⟩, .inr ⟨ts, HP.out⟩⟩
      · have hst := Slo.slot_text HF.out
        have HTX := Lib.hid (show tx.length ≤ 262144 ∧ 128 * Slo.taken tx.length ≤ L ∧ 1 ≤ Slo.taken tx.length from ⟨hst.2.2.1, by have h1 := hst.2.2.2.1; rw [List.length_drop, HN.out.1] at h1; exact h1, Slo.taken_pos _⟩)
        simp only [foundV, foundB] at HSL
        clear hst
        gi_wp2_with (first
          | (refine ⟨trivial, ?_⟩; gi_at_call 66; refine (callsIn_wide.2 HSL.out).mono ?_; rintro e w2 ⟨rfl, hb⟩; have HB2 := Lib.hid hb; clear hb)
          | (refine wpListIn_store_row rfl 98 (.tmp 3) (.tmp 11) rfl _ _ rfl rfl _ _ (heap_alloc_new _ _) (HIF.out _ rfl) rfl (by kernel_rfl) ?_; rw [World.setRow_alloc_new]))
        obtain ⟨W1, hW1⟩ : ∃ W1, w2.alloc (.cells #[.slice (some ⟨g, O + 5, none⟩) tx.length (C - 5), .int .i64 0] 98) = W1 := ⟨_, rfl⟩
        rw [hW1]
        have hx : SlR b g o cap ts #[.agg #[.slice (some ⟨g, O + 5, none⟩) tx.length (C - 5), .int .i64 0]] := ⟨HR.out, HLT.out, by rw [HF.out]; rfl, by rw [HF.out, HN.out.2.1, HN.out.2.2]; rfl⟩
        have hgr : wr.grownBy W1 none := by rw [← hW1]; exact grown_of_below (HB2.out.alloc HB2.out.size _) (Nat.le_refl _)
        have hnew : W1.heap[w2.heap.size]? = some (.cells #[.slice (some ⟨g, O + 5, none⟩) tx.length (C - 5), .int .i64 0] 98 (0, 0)) := by rw [← hW1]; exact heap_alloc_new _ _
        have hsz2 := HB2.out.size
        have hsz1 : w2.heap.size < W1.heap.size := by rw [← hW1]; simp
        obtain ⟨fn, tmps, assign, body, hy, hRn⟩ := hY ts _ wr W1 HJ.out hgr hx
        rw [hy, Oper.uponIn_round]
        refine ⟨fun _ => hn1, hRn.mono ?_⟩
        rintro e W3 (⟨rfl, ⟨s', ⟨t, ht, hs'⟩, hJ3⟩, hsp⟩ | ⟨rfl, hp, hJx⟩)
        · obtain rfl : tx = t := by rw [HF.out] at ht; injection ht
          subst hs'
          have HF3 := Lib.hid ((hsp.new _ hsz2 hsz1).trans hnew)
          have HB3 := Lib.hid ((hsp.cap.trans (hgr.block b0 HFL.out.2 (by simp))).trans HB.out)
          have HG3 := Lib.hid ((hsp.data.trans (hgr.block g HFL.out.1 (by simp))).trans HG.out)
          have HZ3 := Lib.hid (show W.heap.size ≤ W3.heap.size by have := HZ.out; have := hgr.size; have := hsp.size; omega)
          have HJ3 := Lib.hid hJ3
          have HNX := Lib.hid (HR.out.next HLT.out HF.out)
          clear hsp hJ3 hy hRn hx hW1 hgr hnew hsz2 hsz1 HB2 HSL HB
          obtain ⟨cB3, fB3⟩ := box_cell HB3.out
          have c30 : W3.cell? ⟨w2.heap.size, 0, none⟩ = some (.slice (some ⟨g, O + 5, none⟩) tx.length (C - 5)) := cell_of_row _ _ 0 _ _ _ HF3.out
          have c31 : W3.cell? ⟨w2.heap.size, 1, none⟩ = some (.int .i64 0) := cell_of_row _ _ 1 _ _ _ HF3.out
          have htx := HTX.out
          obtain ⟨N, hN⟩ : ∃ N, tx.length = N := ⟨_, rfl⟩
          obtain ⟨K, hK⟩ : ∃ K, Slo.taken N = K := ⟨_, rfl⟩
          have hti : ∀ W, Calls Try.prog 52 #[.int .i64 (N : Int)] W fun e w' => e = .returned (.int .i64 (K : Int)) ∧ w' = W := fun W => (taken_any N (by rw [hN] at htx; omega) W).mono (by rintro e w' ⟨rfl, rfl⟩; rw [hK]; exact ⟨rfl, rfl⟩)
          have HTI := Lib.hid hti
          have HLC := Lib.hid (show L ≤ C by have := HN.out; omega)
          rw [hN, hK] at htx
          have HNK := Lib.hid (And.intro hN hK)
          rw [hN] at c30 HF3 ⊢
          have hLm : L ≤ 2560000 := by have := HN.out.1; omega
          obtain ⟨E, hE⟩ : ∃ E, 128 * K = E := ⟨_, rfl⟩
          have q1 : IntKind.i64.wrap ((K : Int) * 128) = (E : Int) := by rw [IntKind.wrap_i64]; omega
          have h1 : (E : Int) ≤ L := by omega
          have h2 : E ≤ L := by omega
          have HE := Lib.hid (And.intro hE hLm)
          clear hE hLm
          have h3 : L ≤ C := HLC.out
          have HTX2 := Lib.hid htx
          clear hti hN hK htx
          gi_wp2
          refine wpIn_wide.2 ?_
          have hti := HTI.out
          go_still_tail 7, (by kernel_rfl)
          still_call (hti _)
          repeat still_step
          refine wpStill_nil ?_
          go_wp2
          obtain ⟨V, hV⟩ : ∃ V, Value.slice (if C = E then some { block := g, off := O } else some { block := g, off := O + E }) (L - E) (C - E) = V := ⟨_, rfl⟩
          rw [hV]
          have hrow : (W3.setCell ⟨b0, 0, none⟩ V).drew.heap[b0]? = some (.cells #[V] 22 (0, 0)) := heap_setCell_same W3 b0 0 _ _ V HB3.out
          have hcell : (W3.setCell ⟨b0, 0, none⟩ V).drew.cell? ⟨b0, 0, none⟩ = some V := (box_cell hrow).1
          obtain ⟨e1, e2, e3⟩ := HN.out
          obtain ⟨k1, k2⟩ := HNK.out
          obtain ⟨x1, x2⟩ := HE.out
          have x3 := HTX2.out
          have hused : Slo.used (ts ++ [tx]) = Slo.used ts + K := by rw [Slo.used_append]; simp [Slo.used, k1, k2]
          refine ⟨⟨ts ++ [tx], V, Lib.hid ?_, HNX, Lib.hid ?_, Lib.hid ?_, Lib.hid hrow, ?_⟩, ?_⟩
          · exact hJ _ _ _ none (hJc _ _ V HJ3.out) (grownBy_drew (World.grownBy.refl _ _)) (fun r e => by cases e)
          · have := HZ3.out
            simpa using this
          · exact (heap_setCell_other W3 ⟨b0, 0, none⟩ g V (fun e => hne e.symm)).trans HG3.out
          · by_cases hle : L = E
            · refine .inr ⟨by rw [hused]; omega, _, _, by rw [← hV, show L - E = 0 by omega]⟩
            · refine .inl ⟨by rw [hused]; omega, ?_⟩
              rw [← hV, if_neg (by omega), hused, show L - E = b.length - 128 * (Slo.used ts + K) by omega, show C - E = cap - 128 * (Slo.used ts + K) by omega, show O + E = o + 128 * (Slo.used ts + K) by omega]
          · rw [hcell, ← hV, HCB.out]
            show L - E < L
            omega
        · have HP := Lib.hid (And.intro hp hJx)
          clear hp hJx hy hRn hx hW1 HB2 HSL HB
          gi_wp2
          refine bodyPost_ret (results_none rfl _ _ _) rfl ?_
          exact ⟨⟨_, rfl⟩, .inr ⟨ts, HP.out⟩⟩
    · have hz := HR.out.1
      gi_wp2
      go_end0
      exact ⟨⟨_, rfl⟩, .inl ⟨ts, HR.out.no (.inr hle) m (by have := Slo.used_ge ts; omega), HJ.out⟩⟩
/-- The contract of what slots.all hands back. -/
theorem all_stops (n b0 g o cap m : Nat) (hn : 2 ≤ n) (b : List (BitVec 8)) (hm : b.length = 128 * m) (hm0 : m ≤ 20000) (hlc : b.length ≤ cap) (hne : b0 ≠ g) (w : World)
    (hb0 : w.heap[b0]? = some (.cells #[.slice (some ⟨g, o, none⟩) b.length cap] 22 (0, 0))) (hs : SlB w (.slice (some ⟨g, o, none⟩) b.length cap) b) :
    SeqCap Fence.wide n Try.prog 65 #[.pointer (some ⟨b0, 0, none⟩)] b0 g [] (SlR b g o cap) (SlT b) (fun s => Slo.parse m b = (s, true)) (fun s => Slo.parse m b = (s, false)) w := fun l J Jx W hW hJ _ hJc _ hY h0 =>
  all1_in n l b0 g o cap m hn b hm hm0 hlc hne J Jx W hJ hJc hY ((hW.block b0 (Array.getElem?_eq_some_iff.1 hb0).1).trans hb0) (hs.below hW (Nat.le_refl _)) h0
end Go.Proofs.Ytdnjjemdnlegdaa
