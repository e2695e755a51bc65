/-
  A disk and a log on it, of a call's own; given, awake.
-/
import Derived.Test.YtdnjjemdnlegdaaSloK
import Derived.Test.YtdnjjemdnlegdaaConst
import Derived.Test.YtdnjjemdnlegdaaApp
namespace Go.Proofs.Ytdnjjemdnlegdaa
set_option linter.unusedVariables false
set_option linter.unusedSimpArgs false
open Go Go.RowKit
namespace Slo
open Dk
theorem append_short {d : D} {l : L} {t : List (BitVec 8)} (h : ∀ x ∈ l.texts, x.length ≤ 262144) : ∀ x ∈ (append d l t).2.1.texts, x.length ≤ 262144 := by
  unfold append
  split
  · exact h
  · rename_i h1
    split
    · exact h
    · rename_i h2
      split
      · exact h
      · split
        · exact h
        · split
          · exact h
          · intro x hx
            simp only [List.mem_append, List.mem_singleton] at hx
            rcases hx with hx | rfl
            · exact h x hx
            · omega
theorem open_short {d : D} {fr n : Int} {l : L} {c : Int} (h : open_ d fr n = (some l, c)) : ∀ x ∈ l.texts, x.length ≤ 262144 := by
  unfold open_ at h
  split at h
  · cases h
  · rename_i hb
    split at h
    · cases h
    · split at h
      · rename_i hp
        have e : l = ⟨fr.toNat, n.toNat, (parse n.toNat (region d fr.toNat n.toNat)).1, used (parse n.toNat (region d fr.toNat n.toNat)).1, false⟩ := by
          have := congrArg Prod.fst h
          simpa [eq_comm] using this
        rw [e]
        exact (parse_end n.toNat _ _ (by simp [region]; omega) (Prod.ext rfl hp)).2.2
      · cases h
theorem open_fresh (n : Nat) (h0 : 1 ≤ n) : open_ (fresh n) 0 (n : Int) = (some ⟨0, n, [], 0, false⟩, 0) := by
  have hb : (fresh n).b.length = n * 128 := by simp [fresh]
  have hs : slot (region (fresh n) 0 n) = .no := by
    unfold slot
    rw [if_pos]
    rw [region_getD _ _ _ _ (by omega)]
    simp only [fresh, List.getD]
    rw [List.getElem?_replicate]
    split <;> rfl
  unfold open_
  rw [hb, if_neg (by omega), if_neg (by simp [fresh])]
  simp only [Int.toNat_natCast, Int.toNat_zero]
  rw [parse_no _ _ hs]
  simp [used]
end Slo

/-- What lies in the blocks F stays. -/
def Fr (F : Nat → Prop) (w w' : World) : Prop := ∃ K : List Nat, Kept K w w' ∧ ∀ k, k ∈ K → ¬ F k
theorem Fr.refl (F : Nat → Prop) (w : World) : Fr F w w := ⟨[], Kept.refl _ _, fun k h => absurd h (by simp)⟩
theorem Fr.trans {F : Nat → Prop} {a b c : World} (h : Fr F a b) (k : Fr F b c) : Fr F a c := by
  obtain ⟨K, h1, h2⟩ := h
  obtain ⟨L, k1, k2⟩ := k
  exact ⟨K ++ L, (h1.mono (by simp +contextual)).trans (k1.mono (by simp +contextual)), fun i hi => by
    rcases List.mem_append.1 hi with h3 | h3
    · exact h2 i h3
    · exact k2 i h3⟩
theorem Fr.ofBelow {F : Nat → Prop} {w w' : World} (h : Below w.heap.size w w') : Fr F w w' := ⟨[], Kept.ofBelow h (Nat.le_refl _), fun k h => absurd h (by simp)⟩
theorem Fr.size {F : Nat → Prop} {w w' : World} (h : Fr F w w') : w.heap.size ≤ w'.heap.size := by
  obtain ⟨K, h1, h2⟩ := h
  exact h1.size
theorem Fr.block {F : Nat → Prop} {w w' : World} (h : Fr F w w') (k : Nat) (hk : k < w.heap.size) (hF : F k) : w'.heap[k]? = w.heap[k]? := by
  obtain ⟨K, h1, h2⟩ := h
  exact h1.block k hk fun hm => h2 k hm hF
theorem Fr.toBelow {F : Nat → Prop} {w w' : World} {B : Nat} (h : Fr F w w') (hF : ∀ k, k < B → F k) (hB : B ≤ w.heap.size) : Below B w w' := by
  obtain ⟨K, h1, h2⟩ := h
  exact h1.toBelow (fun k hm => Nat.le_of_not_lt fun hlt => h2 k hm (hF k hlt)) hB
theorem Fr.mono {F F' : Nat → Prop} {w w' : World} (h : Fr F w w') (hF : ∀ k, F' k → F k) : Fr F' w w' := by
  obtain ⟨K, h1, h2⟩ := h
  exact ⟨K, h1, fun k hk hf => h2 k hk (hF k hf)⟩
theorem Tx.blk {w : World} {vt : Value} {ts : List (List (BitVec 8))} {vs : List Value} {l : List Nat} (h : Tx w vt ts vs l) (i k : Nat) (e : (vs.getD i undef).ownBlock = some k) : k < w.heap.size := by
  by_cases hi : i < ts.length
  · exact (h.apart i hi k e).2.2
  · have hn : vs.getD i undef = undef := by
      simp only [List.getD]
      rw [List.getElem?_eq_none (by have := h.len; omega)]
      rfl
    rw [hn] at e
    cases e
/-- A disk and a log on it, that lie in none of the blocks F. -/
def DL (F : Nat → Prop) (w : World) (p g q : Nat) (d : Dk.D) (l : Slo.L) : Prop :=
  ∃ vt vs, DiskAt w p g d ∧ LogAt w q p g vt vs l ∧ (¬ F p ∧ ¬ F g ∧ ¬ F q) ∧ (∀ k, vt.ownBlock = some k → ¬ F k) ∧ (∀ x ∈ l.texts, x.length ≤ 262144) ∧ ∀ i k, (vs.getD i undef).ownBlock = some k → ¬ F k
section
variable {F : Nat → Prop} {w w' : World} {p g q : Nat} {d : Dk.D} {l : Slo.L}
theorem DL.below (h : DL F w p g q d l) (hb : Below w.heap.size w w') : DL F w' p g q d l := by
  obtain ⟨vt, vs, h1, h2, h3, h4, h5, h6⟩ := h
  exact ⟨vt, vs, h1.below hb (Nat.le_refl _), h2.below hb (Nat.le_refl _), h3, h4, h5, h6⟩
theorem DL.lt (h : DL F w p g q d l) : p < w.heap.size ∧ g < w.heap.size ∧ q < w.heap.size := by
  obtain ⟨vt, vs, h1, h2, h3, h4, h5, h6⟩ := h
  exact ⟨h1.ltp, h1.ltg, h2.lt⟩
theorem DL.ge (h : DL F w p g q d l) : ¬ F p ∧ ¬ F g ∧ ¬ F q := by
  obtain ⟨vt, vs, h1, h2, h3, h4, h5, h6⟩ := h
  exact h3
theorem DL.disk (h : DL F w p g q d l) : DiskAt w p g d := by
  obtain ⟨vt, vs, h1, h2, h3, h4, h5, h6⟩ := h
  exact h1
theorem DL.short (h : DL F w p g q d l) : ∀ x ∈ l.texts, x.length ≤ 262144 := by
  obtain ⟨vt, vs, h1, h2, h3, h4, h5, h6⟩ := h
  exact h5
theorem DL.small (h : DL F w p g q d l) : l.from_ ≤ 16384 ∧ l.sectors ≤ 16384 ∧ l.used ≤ l.sectors ∧ l.texts.length ≤ l.used := by
  obtain ⟨vt, vs, h1, h2, h3, h4, h5, h6⟩ := h
  exact h2.small
theorem DL.keptD {d' : Dk.D} (h : DL F w p g q d l) (hk : Kept [p, g] w w') (hd : DiskAt w' p g d') : DL F w' p g q d' l := by
  obtain ⟨vt, vs, h1, h2, h3, h4, h5, h6⟩ := h
  exact ⟨vt, vs, hd, h2.keptD hk, h3, h4, h5, h6⟩
theorem DL.frD (h : DL F w p g q d l) (hk : Kept [p, g] w w') : Fr F w w' := ⟨[p, g], hk, fun k hm => by
  simp only [List.mem_cons, List.not_mem_nil, or_false] at hm
  rcases hm with rfl | rfl
  · exact h.ge.1
  · exact h.ge.2.1⟩
/-- Other blocks are the others': all that are new to it lie apart. -/
theorem DL.others {F' : Nat → Prop} (h : DL F w p g q d l) (hF : ∀ k, k < w.heap.size → F' k → F k) : DL F' w p g q d l := by
  obtain ⟨vt, vs, h1, h2, h3, h4, h5, h6⟩ := h
  exact ⟨vt, vs, h1, h2, ⟨fun h => h3.1 (hF _ h1.ltp h), fun h => h3.2.1 (hF _ h1.ltg h), fun h => h3.2.2 (hF _ h2.lt h)⟩, fun k e h => h4 k e (hF k (World.ownsRow.lt h2.tx.own k e).2 h), h5, fun i k e h => h6 i k e (hF k (h2.tx.blk i k e) h)⟩
/-- Whoever touches none of its blocks. -/
theorem DL.kept {K : List Nat} (h : DL F w p g q d l) (hk : Kept K w w') (hK : ∀ k, k ∈ K → F k) : DL F w' p g q d l := by
  obtain ⟨vt, vs, h1, h2, h3, h4, h5, h6⟩ := h
  exact ⟨vt, vs, h1.kept hk (fun hm => h3.1 (hK _ hm)) (fun hm => h3.2.1 (hK _ hm)), ⟨(hk.block q h2.lt (fun hm => h3.2.2 (hK _ hm))).trans h2.row, h2.ne,
    ⟨h2.tx.own.kept hk fun k e hm => h4 k e (hK k hm), h2.tx.len, fun i hi => (h2.tx.txt i hi).keptV hk fun k e hm => h6 i k e (hK k hm), fun i hi k e => ⟨(h2.tx.apart i hi k e).1, (h2.tx.apart i hi k e).2.1, Nat.lt_of_lt_of_le (h2.tx.apart i hi k e).2.2 hk.size⟩, h2.tx.out⟩, h2.small⟩, h3, h4, h5, h6⟩
theorem DL.append (h : DL F w p g q d l) (hF : ∀ k, F k → k < w.heap.size) (v : Value) (t : List (BitVec 8)) (hs : SlB w v t) (hap : Apart v t [p, g, q]) :
    Calls Try.prog 30 #[.pointer (some ⟨q, 0, none⟩), v] w fun e w' => e = .returned (.int .i64 (Slo.append d l t).2.2) ∧ DL F w' p g q (Slo.append d l t).1 (Slo.append d l t).2.1 ∧ Fr F w w' := by
  obtain ⟨vt, vs, h1, h2, h3, h4, h5, h6⟩ := h
  refine (slo_append h2 h1 v t hs hap).mono ?_
  rintro e w' ⟨rfl, hD, ⟨vt', vs', hL, hv, ho⟩, hK⟩
  refine ⟨rfl, ⟨vt', vs', hD, hL, h3, fun k e => ?_, Slo.append_short h5, fun i k e => ?_⟩, _, hK, fun k hm => ?_⟩
  · rcases hv k e with h7 | h7
    · exact h4 k h7
    · exact fun h => by have := hF k h; omega
  · rcases ho i k e with ⟨j, h7⟩ | h7
    · exact h6 j k h7
    · exact fun h => by have := hF k h; omega
  · simp only [List.mem_append, List.mem_cons, List.not_mem_nil, or_false, Option.mem_toList] at hm
    rcases hm with (rfl | rfl | rfl) | hm
    · exact h3.1
    · exact h3.2.1
    · exact h3.2.2
    · exact h4 k hm
theorem DL.all (h : DL F w p g q d l) : Calls Try.prog 32 #[.pointer (some ⟨q, 0, none⟩)] w (AllR w p g q l.texts) := by
  obtain ⟨vt, vs, h1, h2, h3, h4, h5, h6⟩ := h
  exact slo_all h2 h1.ltp h1.ltg h5
theorem DL.room (h : DL F w p g q d l) : Calls Try.prog 39 #[.pointer (some ⟨q, 0, none⟩)] w fun e w' => e = .returned (.int .i64 (Slo.room l)) ∧ ∃ n, w' = w.drewN n := by
  obtain ⟨vt, vs, h1, h2, h3, h4, h5, h6⟩ := h
  exact slo_room h2
theorem DL.used (h : DL F w p g q d l) : Calls Try.prog 34 #[.pointer (some ⟨q, 0, none⟩)] w fun e w' => e = .returned (.int .i64 (l.used : Nat)) ∧ w = w' := by
  obtain ⟨vt, vs, h1, h2, h3, h4, h5, h6⟩ := h
  exact slo_used h2
end
/-- Open, on a disk that lies in none of the blocks F. -/
theorem open_dl {F : Nat → Prop} {w : World} {p g : Nat} {d : Dk.D} (hD : DiskAt w p g d) (hF : ∀ k, F k → k < w.heap.size) (hp : ¬ F p ∧ ¬ F g) (fr n : Int) (h0 : -9223372036854775808 ≤ n) (h1 : n ≤ 9223372036854775807) :
    Calls Try.prog 31 #[.pointer (some ⟨p, 0, none⟩), .int .i64 fr, .int .i64 n] w fun e w' => Below w.heap.size w w' ∧
      ((∃ c, Slo.open_ d fr n = (none, c) ∧ e = .returned (.tuple #[.pointer none, .int .i64 c])) ∨ (∃ l q, Slo.open_ d fr n = (some l, 0) ∧ e = .returned (.tuple #[.pointer (some ⟨q, 0, none⟩), .int .i64 0]) ∧ DL F w' p g q d l)) := by
  refine (slo_open hD fr n h0 h1).mono ?_
  rintro e w' ⟨hb, h⟩
  refine ⟨hb, ?_⟩
  obtain ⟨⟨o, c⟩, hr⟩ : ∃ r, Slo.open_ d fr n = r := ⟨_, rfl⟩
  rw [hr] at h
  cases o with
  | none => exact .inl ⟨c, hr, h⟩
  | some l =>
    obtain ⟨hc, q, vt, vs, rfl, hL, hq, hv, hx⟩ := h
    simp only at hc
    subst hc
    exact .inr ⟨l, q, hr, rfl, vt, vs, hD.below hb (Nat.le_refl _), hL, ⟨hp.1, hp.2, fun h => by have := hF q h; omega⟩, fun k e h => by have := hv k e; have := hF k h; omega, Slo.open_short hr, fun i k e h => by have := hx i k e; have := hF k h; omega⟩

set_option maxRecDepth 100000 in
theorem given_any (n : Nat) (h0 : 1 ≤ n) (h1 : n ≤ 16384) (w : World) : Calls Try.prog 29 #[.int .i64 (n : Int)] w fun e w' =>
    ∃ p g q, e = .returned (.tuple #[.pointer (some ⟨p, 0, none⟩), .pointer (some ⟨q, 0, none⟩)]) ∧ DL (fun k => k < w.heap.size) w' p g q (Dk.fresh n) ⟨0, n, [], 0, false⟩ ∧ Below w.heap.size w w' := by
  have HN := Lib.hid (fun w => dk_new n h0 h1 w)
  have HO := Lib.hid (fun (W : World) (p g : Nat) (hD : DiskAt W p g (Dk.fresh n)) (hB : w.heap.size ≤ W.heap.size) (hp : w.heap.size ≤ p ∧ w.heap.size ≤ g) => (open_dl (F := fun k => k < w.heap.size) hD (fun k h => Nat.lt_of_lt_of_le h hB) ⟨Nat.not_lt.2 hp.1, Nat.not_lt.2 hp.2⟩ 0 (n : Int) (by omega) (by omega)).mono (R' := fun e w' => ∃ q, e = .returned (.tuple #[.pointer (some ⟨q, 0, none⟩), .int .i64 0]) ∧ DL (fun k => k < w.heap.size) w' p g q (Dk.fresh n) ⟨0, n, [], 0, false⟩ ∧ Below W.heap.size W w') (by
    rintro e w' ⟨hb, ⟨c, h, _⟩ | ⟨l, q, h, rfl, hd⟩⟩
    · rw [Slo.open_fresh n h0] at h; cases h
    · rw [Slo.open_fresh n h0] at h
      obtain rfl : (⟨0, n, [], 0, false⟩ : Slo.L) = l := by have := congrArg Prod.fst h; simpa using this
      exact ⟨q, rfl, hd, hb⟩))
  go_enter Try.func29, Try.ntmps29
  go_wp2_with (first
    | (go_at_call 14; refine (HN.out w).mono ?_; rintro e w1 ⟨p, g, rfl, hD1, hp1, hg1, hb1⟩; have HD1 := Lib.hid hD1; have HB1 := Lib.hid (And.intro hp1 (And.intro hg1 hb1)); clear hD1 hp1 hg1 hb1)
    | (go_at_call 31; refine (HO.out w1 p g HD1.out HB1.out.2.2.size ⟨HB1.out.1, HB1.out.2.1⟩).mono ?_; rintro e w2 ⟨q, rfl, hd, hb2⟩; have HDL := Lib.hid hd; have HB2 := Lib.hid hb2; clear hd hb2))
  go_ret2
  exact ⟨p, g, q, rfl, HDL.out, HB1.out.2.2.trans (HB2.out.mono HB1.out.2.2.size)⟩

theorem aw_facts : (Slo.append (Dk.fresh 3) ⟨0, 3, [], 0, false⟩ [97, 98]).2.2 = 0 ∧ (Slo.append (Dk.fresh 3) ⟨0, 3, [], 0, false⟩ [97, 98]).1.b.length = 384 ∧ (Slo.append (Dk.fresh 3) ⟨0, 3, [], 0, false⟩ [97, 98]).1.b.take 8 = [1, 0, 0, 0, 2, 97, 98, 0] ∧
    Slo.room (Slo.append (Dk.fresh 3) ⟨0, 3, [], 0, false⟩ [97, 98]).2.1 = 251 ∧ (Slo.append (Dk.fresh 3) ⟨0, 3, [], 0, false⟩ [97, 98]).2.1.used = 1 := by
  decide +kernel

set_option maxRecDepth 100000 in
theorem awake9_any (w : World) : Calls Try.prog 28 #[] w fun e w' => e = .returned (.bool true) ∧ Below w.heap.size w w' := by
  have HG := Lib.hid (fun w => given_any 3 (by omega) (by omega) w)
  obtain ⟨f1, f2, f3, f4, f5⟩ := aw_facts
  have HA := Lib.hid (fun (F : Nat → Prop) (W : World) (p g q : Nat) (h : DL F W p g q (Dk.fresh 3) ⟨0, 3, [], 0, false⟩) (hF : ∀ k, F k → k < W.heap.size) => h.append hF)
  obtain ⟨⟨d1, l1, e1⟩, hr⟩ : ∃ r, Slo.append (Dk.fresh 3) ⟨0, 3, [], 0, false⟩ [97, 98] = r := ⟨_, rfl⟩
  have HR := Lib.hid hr
  rw [hr] at f1 f2 f3 f4 f5
  simp only at f1 f2 f3 f4 f5
  have HF := Lib.hid (And.intro f1 (And.intro f2 (And.intro f3 (And.intro f4 f5))))
  clear f1 f2 f3 f4 f5 hr
  go_enter Try.func28, Try.ntmps28
  go_wp2_with (first
    | (go_at_call 29; refine (HG.out w).mono ?_; rintro e w1 ⟨p, g, q, rfl, hd, hb⟩; have HD := Lib.hid hd; have HB := Lib.hid hb; clear hd hb; have hkc := konst_conv [97, 98] w1 2; rw [show bytes [97, 98] = #[.int .u8 97, .int .u8 98] from by kernel_rfl] at hkc)
    | (go_at_call 30; refine (HA.out (fun k => k < w.heap.size) (konst w1 [97, 98]) p g q (HD.out.below (konst_below _ _)) (fun k h => by have := HB.out.size; rw [konst_size]; omega) _ [97, 98] (konst_sl w1 [97, 98] (by decide)) (by intro _ k hk; simp only [Value.ownBlock, Option.some.injEq] at hk; have := HD.out.lt; simp; omega)).mono ?_; rw [HR.out]; simp only [HF.out.1]; rintro e w2 ⟨rfl, hd, hb⟩; have HD2 := Lib.hid hd; have HB2 := Lib.hid (HB.out.trans (((konst_below w1 [97, 98]).mono HB.out.size).trans (hb.toBelow (fun k h => h) (by have := HB.out.size; rw [konst_size]; omega)))); clear hd hb hkc)
    | (go_at_call 17; refine (dk_bytes HD2.out.disk).mono ?_; rintro e w3 ⟨v3, rfl, ho, hb⟩; obtain ⟨g3, c3, rfl, hg3, hl3, hc3, hs3⟩ := ho.form 384 HF.out.2.1 (by omega); have h8 := conv_any (hs3.take 8 (by omega)); rw [HF.out.2.2.1, show strB [1, 0, 0, 0, 2, 97, 98, 0] = ⟨#[1, 0, 0, 0, 2, 97, 98, 0]⟩ from by kernel_rfl] at h8; have HD3 := Lib.hid (HD2.out.below hb); have HB3 := Lib.hid (HB2.out.trans (hb.mono HB2.out.size)); clear ho hb hs3)
    | (go_at_call 39; refine HD3.out.room.mono ?_; rw [HF.out.2.2.2.1]; rintro e w4 ⟨rfl, m, rfl⟩)
    | (go_at_call 34; refine (HD3.out.below (Below.drewN (Below.refl _ _) m)).used.mono ?_; rw [HF.out.2.2.2.2]; rintro e w5 ⟨rfl, rfl⟩))
  go_ret
  exact ⟨rfl, Below.drewN HB3.out m⟩
end Go.Proofs.Ytdnjjemdnlegdaa
