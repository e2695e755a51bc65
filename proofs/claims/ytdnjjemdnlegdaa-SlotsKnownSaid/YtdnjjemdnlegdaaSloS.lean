/-
  A log of texts on a disk, in plain Lean: slots, what a region's bytes tell, appending, and what is there when the power went. No program in sight.
-/
import Derived.Test.YtdnjjemdnlegdaaDkL
import Derived.Test.YtdnjjemdnlegdaaNum
namespace Go.Proofs.Ytdnjjemdnlegdaa.Slo
open Go Dk Num
set_option linter.unusedVariables false
set_option linter.unusedSimpArgs false

/-- How many sectors a text's slot takes. -/
def taken (n : Nat) : Nat := (n + 132) / 128
theorem taken_pos (n : Nat) : 1 ≤ taken n := by unfold taken; omega
theorem taken_ge (n : Nat) : n + 5 ≤ 128 * taken n := by unfold taken; omega
theorem taken_le (n : Nat) : 128 * taken n ≤ n + 132 := by unfold taken; omega
/-- A text's slot. -/
def laid (m : BitVec 8) (t : List (BitVec 8)) : List (BitVec 8) := m :: (num t.length 4 ++ (t ++ List.replicate (128 * taken t.length - 5 - t.length) 0))
theorem laid_length (m : BitVec 8) (t : List (BitVec 8)) : (laid m t).length = 128 * taken t.length := by
  have := taken_ge t.length
  simp [laid, num_length]; omega
theorem laid_val (m : BitVec 8) (t ys : List (BitVec 8)) (h : t.length < 4294967296) : val4 ((laid m t ++ ys).drop 1) = t.length := by
  unfold laid
  rw [List.cons_append, List.drop_succ_cons, List.drop_zero, List.append_assoc]
  exact val4_num _ h _
theorem laid_text (m : BitVec 8) (t ys : List (BitVec 8)) : ((laid m t ++ ys).drop 5).take t.length = t := by
  unfold laid
  rw [List.cons_append, List.drop_succ_cons, List.append_assoc, List.drop_left' (num_length _ _), List.append_assoc, List.take_left' rfl]
theorem laid_other (m m' : BitVec 8) (t : List (BitVec 8)) (j : Nat) (h : j ≠ 0) : (laid m t).getD j 0 = (laid m' t).getD j 0 := by
  cases j with
  | zero => exact absurd rfl h
  | succ j => rfl

inductive Found where
  | no
  | bad
  | text (t : List (BitVec 8))
/-- What stands where a slot may begin. -/
def slot (b : List (BitVec 8)) : Found :=
  if b.getD 0 0 = 0 then .no
  else if b.getD 0 0 ≠ 1 then .bad
  else if 262144 < val4 (b.drop 1) ∨ b.length < 128 * taken (val4 (b.drop 1)) then .bad
  else .text ((b.drop 5).take (val4 (b.drop 1)))
theorem slot_text {b t : List (BitVec 8)} (h : slot b = .text t) : b.getD 0 0 = 1 ∧ val4 (b.drop 1) = t.length ∧ t.length ≤ 262144 ∧ 128 * taken t.length ≤ b.length ∧ (b.drop 5).take t.length = t := by
  unfold slot at h
  by_cases h0 : b.getD 0 0 = 0
  · rw [if_pos h0] at h; cases h
  rw [if_neg h0] at h
  by_cases h1 : b.getD 0 0 ≠ 1
  · rw [if_pos h1] at h; cases h
  rw [if_neg h1] at h
  by_cases h2 : 262144 < val4 (b.drop 1) ∨ b.length < 128 * taken (val4 (b.drop 1))
  · rw [if_pos h2] at h; cases h
  rw [if_neg h2] at h
  have h' : (b.drop 5).take (val4 (b.drop 1)) = t := by injection h
  have hg := taken_ge (val4 (b.drop 1))
  have hl : t.length = val4 (b.drop 1) := by rw [← h', List.length_take, List.length_drop]; omega
  refine ⟨Classical.not_not.1 h1, hl.symm, by omega, by rw [hl]; omega, by rw [hl]; exact h'⟩
theorem slot_of {b t : List (BitVec 8)} (h0 : b.getD 0 0 = 1) (h1 : val4 (b.drop 1) = t.length) (h2 : t.length ≤ 262144) (h3 : 128 * taken t.length ≤ b.length) (h4 : (b.drop 5).take t.length = t) : slot b = .text t := by
  unfold slot
  rw [if_neg (by rw [h0]; decide), if_neg (by rw [h0]; decide), h1, if_neg (by omega), h4]
theorem slot_laid (t ys : List (BitVec 8)) (h : t.length ≤ 262144) : slot (laid 1 t ++ ys) = .text t :=
  slot_of rfl (laid_val _ _ _ (by omega)) h (by rw [List.length_append, laid_length]; omega) (laid_text _ _ _)
theorem slot_congr {b b' t : List (BitVec 8)} (h : slot b = .text t) (hl : b'.length = b.length) (ht : b'.take (128 * taken t.length) = b.take (128 * taken t.length)) : slot b' = .text t := by
  obtain ⟨h0, h1, h2, h3, h4⟩ := slot_text h
  have hg := taken_ge t.length
  have hj : ∀ j, j < 128 * taken t.length → b'.getD j 0 = b.getD j 0 := fun j hj => by rw [← Num.getD_take b' _ j hj, ht, Num.getD_take b _ j hj]
  have hv : val4 (b'.drop 1) = val4 (b.drop 1) := by
    have e : ∀ (c : List (BitVec 8)) i, (c.drop 1).getD i 0 = c.getD (1 + i) 0 := fun c i => by simp [List.getD, Nat.add_comm]
    unfold val4
    rw [e, e, e, e, e, e, e, e, hj _ (by omega), hj _ (by omega), hj _ (by omega), hj _ (by omega)]
  refine slot_of (by rw [hj 0 (by omega)]; exact h0) (hv.trans h1) h2 (by omega) ?_
  have : ((b'.take (128 * taken t.length)).drop 5).take t.length = ((b.take (128 * taken t.length)).drop 5).take t.length := by rw [ht]
  rw [List.drop_take, List.drop_take, List.take_take, List.take_take, show min t.length (128 * taken t.length - 5) = t.length by omega] at this
  rw [this]; exact h4

/-- What a region's bytes tell: its texts, and whether nothing is wrong. -/
def parse : Nat → List (BitVec 8) → List (List (BitVec 8)) × Bool
  | 0, _ => ([], true)
  | f + 1, b => if b = [] then ([], true) else match slot b with
    | .no => ([], true)
    | .bad => ([], false)
    | .text t => (t :: (parse f (b.drop (128 * taken t.length))).1, (parse f (b.drop (128 * taken t.length))).2)
theorem parse_nil (f : Nat) : parse f [] = ([], true) := by cases f <;> simp [parse]
theorem parse_no (f : Nat) (b : List (BitVec 8)) (h : slot b = .no) : parse f b = ([], true) := by
  cases f with
  | zero => rfl
  | succ f => unfold parse; split <;> simp [h]
theorem parse_bad (f : Nat) (b : List (BitVec 8)) (hb : b ≠ []) (h : slot b = .bad) : parse (f + 1) b = ([], false) := by unfold parse; rw [if_neg hb, h]
theorem parse_text (f : Nat) (b t : List (BitVec 8)) (hb : b ≠ []) (h : slot b = .text t) : parse (f + 1) b = (t :: (parse f (b.drop (128 * taken t.length))).1, (parse f (b.drop (128 * taken t.length))).2) := by simp only [parse, if_neg hb, h]
def used : List (List (BitVec 8)) → Nat
  | [] => 0
  | t :: ts => taken t.length + used ts
theorem used_append (xs ys : List (List (BitVec 8))) : used (xs ++ ys) = used xs + used ys := by
  induction xs with
  | nil => simp [used]
  | cons t xs ih => simp only [List.cons_append, used, ih]; omega
theorem used_ge (ts : List (List (BitVec 8))) : ts.length ≤ used ts := by
  induction ts with
  | nil => exact Nat.le_refl _
  | cons t ts ih => have := taken_pos t.length; simp only [used, List.length_cons]; omega
/-- Behind the texts there is nothing, or no slot. -/
theorem parse_end (f : Nat) : ∀ (b : List (BitVec 8)) (ts : List (List (BitVec 8))), b.length ≤ 128 * f → parse f b = (ts, true) →
    128 * used ts ≤ b.length ∧ (128 * used ts < b.length → b.getD (128 * used ts) 0 = 0) ∧ ∀ t ∈ ts, t.length ≤ 262144 := by
  induction f with
  | zero =>
    intro b ts hl h
    obtain rfl : ts = [] := by simpa [parse, eq_comm] using h
    exact ⟨by simp [used], fun hh => by simp [used] at hh; omega, fun t ht => by simp at ht⟩
  | succ f ih =>
    intro b ts hl h
    by_cases hb : b = []
    · subst hb
      rw [parse_nil] at h
      obtain rfl : ts = [] := by simpa [eq_comm] using h
      exact ⟨by simp [used], fun hh => by simp [used] at hh, fun t ht => by simp at ht⟩
    · cases hs : slot b with
      | no =>
        rw [parse_no _ _ hs] at h
        obtain rfl : ts = [] := by simpa [eq_comm] using h
        refine ⟨by simp [used], fun _ => ?_, fun t ht => by simp at ht⟩
        unfold slot at hs
        by_cases h0 : b.getD 0 0 = 0
        · exact h0
        · rw [if_neg h0] at hs
          exfalso
          split at hs
          · cases hs
          · split at hs <;> cases hs
      | bad => rw [parse_bad _ _ hb hs] at h; simp at h
      | text t =>
        rw [parse_text _ _ _ hb hs] at h
        obtain ⟨_, _, h2, h3, _⟩ := slot_text hs
        have hp := taken_pos t.length
        have hts : ts = t :: (parse f (b.drop (128 * taken t.length))).1 := by simpa [eq_comm] using congrArg Prod.fst h
        have htr : (parse f (b.drop (128 * taken t.length))).2 = true := congrArg Prod.snd h
        obtain ⟨tr, htr1⟩ : ∃ tr, (parse f (b.drop (128 * taken t.length))).1 = tr := ⟨_, rfl⟩
        rw [htr1] at hts
        subst hts
        obtain ⟨g1, g2, g3⟩ := ih (b.drop (128 * taken t.length)) tr (by simp; omega) (Prod.ext htr1 htr)
        rw [List.length_drop] at g1 g2
        refine ⟨by simp only [used]; omega, fun hh => ?_, fun x hx => ?_⟩
        · simp only [used] at hh ⊢
          have := g2 (by omega)
          rw [show 128 * (taken t.length + used tr) = 128 * taken t.length + 128 * used tr by omega]
          simpa [List.getD] using this
        · rcases List.mem_cons.1 hx with rfl | hx
          · exact h2
          · exact g3 x hx
/-- Other bytes behind the texts: the texts are told, and then what stands there. -/
theorem parse_grow (f : Nat) : ∀ (b b' : List (BitVec 8)) (ts : List (List (BitVec 8))), b.length ≤ 128 * f → parse f b = (ts, true) → b'.length = b.length → b'.take (128 * used ts) = b.take (128 * used ts) →
    parse f b' = (ts ++ (parse (f - ts.length) (b'.drop (128 * used ts))).1, (parse (f - ts.length) (b'.drop (128 * used ts))).2) := by
  induction f with
  | zero =>
    intro b b' ts hl h hl' ht
    obtain rfl : ts = [] := by simpa [parse, eq_comm] using h
    simp [parse]
  | succ f ih =>
    intro b b' ts hl h hl' ht
    by_cases hts : ts = []
    · subst hts
      simp [used]
    · by_cases hb : b = []
      · subst hb
        rw [parse_nil] at h
        exact absurd (by simpa [eq_comm] using h) hts
      · cases hs : slot b with
        | no =>
          rw [parse_no _ _ hs] at h
          exact absurd (by simpa [eq_comm] using h) hts
        | bad => rw [parse_bad _ _ hb hs] at h; simp at h
        | text t =>
          rw [parse_text _ _ _ hb hs] at h
          obtain ⟨_, _, h2, h3, _⟩ := slot_text hs
          have hp := taken_pos t.length
          have hts : ts = t :: (parse f (b.drop (128 * taken t.length))).1 := by simpa [eq_comm] using congrArg Prod.fst h
          have htr : (parse f (b.drop (128 * taken t.length))).2 = true := congrArg Prod.snd h
          obtain ⟨tr, htr'⟩ : ∃ tr, (parse f (b.drop (128 * taken t.length))).1 = tr := ⟨_, rfl⟩
          rw [htr'] at hts
          subst hts
          simp only [used] at ht ⊢
          have ht1 : b'.take (128 * taken t.length) = b.take (128 * taken t.length) := by
            have := congrArg (List.take (128 * taken t.length)) ht
            rwa [List.take_take, List.take_take, show min (128 * taken t.length) (128 * (taken t.length + used tr)) = 128 * taken t.length by omega] at this
          have ht2 : (b'.drop (128 * taken t.length)).take (128 * used tr) = (b.drop (128 * taken t.length)).take (128 * used tr) := by
            have := congrArg (List.drop (128 * taken t.length)) ht
            rwa [List.drop_take, List.drop_take, show 128 * (taken t.length + used tr) - 128 * taken t.length = 128 * used tr by omega] at this
          have hb' : b' ≠ [] := by intro e; rw [e] at hl'; exact hb (List.eq_nil_of_length_eq_zero hl'.symm)
          rw [parse_text _ _ _ hb' (slot_congr hs hl' ht1), ih (b.drop (128 * taken t.length)) (b'.drop (128 * taken t.length)) tr (by simp; omega) (Prod.ext htr' htr) (by simp [hl']) ht2]
          rw [List.drop_drop, show 128 * taken t.length + 128 * used tr = 128 * (taken t.length + used tr) by omega]
          simp
theorem parse_same (f : Nat) (b b' : List (BitVec 8)) (ts : List (List (BitVec 8))) (hl : b.length ≤ 128 * f) (h : parse f b = (ts, true)) (hl' : b'.length = b.length) (ht : b'.take (128 * used ts) = b.take (128 * used ts))
    (h0 : 128 * used ts < b.length → b'.getD (128 * used ts) 0 = 0) : parse f b' = (ts, true) := by
  rw [parse_grow f b b' ts hl h hl' ht]
  have he := parse_end f b ts hl h
  by_cases hlt : 128 * used ts < b.length
  · have hs : slot (b'.drop (128 * used ts)) = .no := by
      unfold slot
      rw [if_pos]
      have := h0 hlt
      simpa [List.getD] using this
    rw [parse_no _ _ hs]; simp
  · rw [List.drop_of_length_le (by omega), parse_nil]; simp
theorem parse_more (f : Nat) (b b' t ys : List (BitVec 8)) (ts : List (List (BitVec 8))) (hl : b.length ≤ 128 * f) (h : parse f b = (ts, true)) (hl' : b'.length = b.length) (ht : b'.take (128 * used ts) = b.take (128 * used ts))
    (hd : b'.drop (128 * used ts) = laid 1 t ++ ys) (h0 : ys ≠ [] → ys.getD 0 0 = 0) (htl : t.length ≤ 262144) : parse f b' = (ts ++ [t], true) := by
  rw [parse_grow f b b' ts hl h hl' ht, hd]
  have hu := used_ge ts
  have hp := taken_pos t.length
  have hln : b'.length - 128 * used ts = 128 * taken t.length + ys.length := by
    have := congrArg List.length hd
    simpa [laid_length] using this
  obtain ⟨k, hk⟩ : ∃ k, f - ts.length = k + 1 := ⟨f - ts.length - 1, by omega⟩
  rw [hk, parse_text _ _ _ (by simp [laid]) (slot_laid t ys htl), List.drop_left' (laid_length _ _)]
  by_cases hy : ys = []
  · subst hy; rw [parse_nil]
  · rw [parse_no _ ys (by unfold slot; rw [if_pos (h0 hy)])]

/-- A log: its region, its texts, how many sectors they take. -/
structure L where
  from_ : Nat
  sectors : Nat
  texts : List (List (BitVec 8))
  used : Nat
  dead : Bool
def region (d : D) (fr n : Nat) : List (BitVec 8) := (d.b.drop (128 * fr)).take (128 * n)
theorem region_length (d : D) (fr n : Nat) (h : 128 * (fr + n) ≤ d.b.length) : (region d fr n).length = 128 * n := by simp [region]; omega
theorem region_getD (d : D) (fr n j : Nat) (h : j < 128 * n) : (region d fr n).getD j 0 = d.b.getD (128 * fr + j) 0 := by
  unfold region
  rw [Num.getD_take _ _ _ h]
  simp [List.getD]
/-- What is written first. -/
def whole (l : L) (t : List (BitVec 8)) : List (BitVec 8) := laid 0 t ++ if l.used + taken t.length < l.sectors then List.replicate 128 0 else []
def append (d : D) (l : L) (t : List (BitVec 8)) : D × L × Int :=
  if (l.dead || d.off) = true then (d, l, 12)
  else if 262144 < t.length then (d, l, 3)
  else if l.sectors - l.used < taken t.length then (d, l, 7)
  else if (write d ((l.from_ + l.used : Nat) : Int) (whole l t)).2 ≠ 0 then ((write d ((l.from_ + l.used : Nat) : Int) (whole l t)).1, { l with dead := true }, (write d ((l.from_ + l.used : Nat) : Int) (whole l t)).2)
  else if (write (write d ((l.from_ + l.used : Nat) : Int) (whole l t)).1 ((l.from_ + l.used : Nat) : Int) ((laid 1 t).take 128)).2 ≠ 0 then
    ((write (write d ((l.from_ + l.used : Nat) : Int) (whole l t)).1 ((l.from_ + l.used : Nat) : Int) ((laid 1 t).take 128)).1, { l with dead := true }, (write (write d ((l.from_ + l.used : Nat) : Int) (whole l t)).1 ((l.from_ + l.used : Nat) : Int) ((laid 1 t).take 128)).2)
  else ((write (write d ((l.from_ + l.used : Nat) : Int) (whole l t)).1 ((l.from_ + l.used : Nat) : Int) ((laid 1 t).take 128)).1, { l with texts := l.texts ++ [t], used := l.used + taken t.length }, 0)
def room (l : L) : Int := max (-1) (min 262144 (((l.sectors - l.used : Nat) : Int) * 128 - 5))

/-- A log that is on a disk. -/
structure Is (d : D) (l : L) : Prop where
  fit : 128 * (l.from_ + l.sectors) ≤ d.b.length
  used_eq : l.used = used l.texts
  parse_eq : parse l.sectors (region d l.from_ l.sectors) = (l.texts, true)

theorem whole_length (l : L) (t : List (BitVec 8)) : (whole l t).length = 128 * (taken t.length + if l.used + taken t.length < l.sectors then 1 else 0) := by
  unfold whole
  rw [List.length_append, laid_length]
  split <;> simp <;> omega
theorem Is.le {d : D} {l : L} (h : Is d l) : l.used ≤ l.sectors ∧ (l.used < l.sectors → d.b.getD (128 * (l.from_ + l.used)) 0 = 0) ∧ ∀ t ∈ l.texts, t.length ≤ 262144 := by
  have hr := region_length d l.from_ l.sectors h.fit
  obtain ⟨h1, h2, h3⟩ := parse_end l.sectors _ _ (by omega) h.parse_eq
  rw [hr, ← h.used_eq] at h1 h2
  refine ⟨by omega, fun hh => ?_, h3⟩
  have := h2 (by omega)
  rw [region_getD _ _ _ _ (by omega)] at this
  rwa [show 128 * (l.from_ + l.used) = 128 * l.from_ + 128 * l.used by omega]
/-- A write of sectors that are there. -/
theorem write_many (d : D) (k n : Nat) (xs : List (BitVec 8)) (hx : xs.length = 128 * n) (hl : 128 * (k + n) ≤ d.b.length) (ho : d.off = false) (h0 : -1 ≤ d.left) :
    (write d (k : Int) xs).1.b.length = d.b.length ∧
    (∀ j, (write d (k : Int) xs).1.b.getD j 0 = if k ≤ j / 128 ∧ j / 128 < k + n ∧ hit d.left d.mask k j = true then xs.getD (j - 128 * k) 0 else d.b.getD j 0) ∧
    (write d (k : Int) xs).2 = (if 0 ≤ d.left ∧ d.left < n then 12 else 0) ∧ (write d (k : Int) xs).1.off = (if 0 ≤ d.left ∧ d.left < n then true else false) ∧
    (write d (k : Int) xs).1.left = (if 0 ≤ d.left ∧ d.left < n then -1 else max (d.left - n) (-1)) ∧ (write d (k : Int) xs).1.mask = d.mask := by
  have hm : may d (k : Int) ((xs.length / 128 : Nat) : Int) = 0 := (may_zero _ _ _).2 ⟨⟨by omega, by omega, by omega⟩, ho⟩
  have hw : write d (k : Int) xs = run k xs n 0 d := by
    unfold write
    rw [if_neg (by omega), if_neg (by omega), Int.toNat_natCast, show xs.length / 128 = n by omega]
  have hlen : ∀ (m i : Nat) (d : D), m + i = n → 128 * (k + n) ≤ d.b.length → (run k xs m i d).1.b.length = d.b.length := by
    intro m
    induction m with
    | zero => intro i d _ _; rfl
    | succ m ih =>
      intro i d hm hl
      unfold run
      split
      · exact splice_length _ _ _ (by rw [tornL_length]; omega)
      · have hw := wstep_len (d := d) k xs i n (by omega) (by omega) (by omega)
        rw [ih (i + 1) _ (by omega) (by omega), hw]
  rw [hw]
  obtain ⟨g1, g2, g3, g4, g5⟩ := run_getD k xs n (by omega) n 0 d (by omega) (by omega) h0
  refine ⟨hlen n 0 d (by omega) hl, fun j => ?_, g2, by rw [g3, ho], g4, g5⟩
  simpa using g1 j
theorem hit_all (left : Int) (mask : List (BitVec 8)) (k n j : Nat) (h : ¬ (0 ≤ left ∧ left < n)) (h1 : k ≤ j / 128) (h2 : j / 128 < k + n) : hit left mask k j = true := by
  unfold hit
  by_cases hn : left < 0
  · simp [hn]
  · simp only [Bool.or_eq_true, decide_eq_true_eq]
    exact .inl (.inr (by omega))
/-- Other bytes outside of a region that is told. -/
theorem region_ext (d d' : D) (fr n u : Nat) (hl : d'.b.length = d.b.length) (h : ∀ j, j < 128 * u → d'.b.getD (128 * fr + j) 0 = d.b.getD (128 * fr + j) 0) (hf : 128 * (fr + n) ≤ d.b.length) (hu : u ≤ n) :
    (region d' fr n).length = (region d fr n).length ∧ (region d' fr n).take (128 * u) = (region d fr n).take (128 * u) := by
  have e1 := region_length d fr n hf
  have e2 := region_length d' fr n (by omega)
  refine ⟨by omega, ext_getD (by simp [e1, e2]) fun j hj => ?_⟩
  have hj' : j < 128 * u := by simp at hj; omega
  rw [Num.getD_take _ _ _ hj', Num.getD_take _ _ _ hj', region_getD _ _ _ _ (by omega), region_getD _ _ _ _ (by omega), h j hj']

/-- What comes of an append that is not refused: told OK it is there; told else the power is gone, and it is there whole, or nothing of it. -/
theorem append_spec {d : D} {l : L} (h : Is d l) (h0 : -1 ≤ d.left) (t : List (BitVec 8)) (hdead : l.dead = false) (hoff : d.off = false) (ht : t.length ≤ 262144) (hfit : l.used + taken t.length ≤ l.sectors) :
    ((append d l t).2.2 = 0 ∧ Is (append d l t).1 (append d l t).2.1 ∧ (append d l t).2.1 = { l with texts := l.texts ++ [t], used := l.used + taken t.length } ∧ (append d l t).1.off = false) ∨
    ((append d l t).2.2 = 12 ∧ (append d l t).1.off = true ∧ (append d l t).2.1 = { l with dead := true } ∧ (append d l t).1.left = -1 ∧
      (parse l.sectors (region (append d l t).1 l.from_ l.sectors) = (l.texts, true) ∨ parse l.sectors (region (append d l t).1 l.from_ l.sectors) = (l.texts ++ [t], true))) := by
  obtain ⟨hle, hz, htx⟩ := h.le
  have hfitd := h.fit
  have hp := taken_pos t.length
  have hg := taken_ge t.length
  have hrl := region_length d l.from_ l.sectors hfitd
  have hll := laid_length 0 t
  have hll1 := laid_length 1 t
  have hwl := whole_length l t
  obtain ⟨n, hn⟩ : ∃ n, taken t.length + (if l.used + taken t.length < l.sectors then 1 else 0) = n := ⟨_, rfl⟩
  rw [hn] at hwl
  have hn1 : l.used + n ≤ l.sectors ∧ taken t.length ≤ n ∧ (l.used + taken t.length < l.sectors → n = taken t.length + 1) ∧ n ≤ taken t.length + 1 := by
    split at hn <;> omega
  obtain ⟨w1, w2, w3, w4, w5, w6⟩ := write_many d (l.from_ + l.used) n (whole l t) hwl (by omega) hoff h0
  have hwg : ∀ j, j < 128 * taken t.length → (whole l t).getD j 0 = (laid 0 t).getD j 0 := fun j hj => by
    unfold whole
    simp only [List.getD]
    rw [List.getElem?_append_left (by omega)]
  have hwz : ∀ j, 128 * taken t.length ≤ j → (whole l t).getD j 0 = 0 := fun j hj => by
    unfold whole
    simp only [List.getD]
    rw [List.getElem?_append_right (by omega)]
    split
    · rw [List.getElem?_replicate]; split <;> rfl
    · rfl
  have h00 : (laid 0 t).getD 0 0 = 0 := rfl
  have h10 : (laid 1 t).getD 0 0 = 1 := rfl
  unfold append
  rw [if_neg (by simp [hdead, hoff]), if_neg (by omega), if_neg (by omega)]
  by_cases hcut : 0 ≤ d.left ∧ d.left < n
  · rw [if_pos hcut] at w3 w4 w5
    rw [if_pos (by rw [w3]; decide)]
    refine .inr ⟨w3, w4, rfl, w5, .inl ?_⟩
    obtain ⟨r1, r2⟩ := region_ext d (write d ((l.from_ + l.used : Nat) : Int) (whole l t)).1 l.from_ l.sectors l.used w1 (fun j hj => by rw [w2, if_neg (by omega)]) hfitd hle
    refine parse_same l.sectors _ _ l.texts (by omega) h.parse_eq r1 (by rw [← h.used_eq]; exact r2) (fun hh => ?_)
    rw [← h.used_eq] at hh ⊢
    rw [region_getD _ _ _ _ (by omega), w2]
    have hz' := hz (by omega)
    rw [show 128 * l.from_ + 128 * l.used = 128 * (l.from_ + l.used) by omega]
    split
    · rw [show 128 * (l.from_ + l.used) - 128 * (l.from_ + l.used) = 0 by omega, hwg 0 (by omega)]; exact h00
    · exact hz'
  · rw [if_neg hcut] at w3 w4 w5
    rw [if_neg (by rw [w3]; decide)]
    obtain ⟨d1, hd1⟩ : ∃ d1, (write d ((l.from_ + l.used : Nat) : Int) (whole l t)).1 = d1 := ⟨_, rfl⟩
    rw [hd1] at w1 w2 w4 w5 w6 ⊢
    have w2' : ∀ j, l.from_ + l.used ≤ j / 128 → j / 128 < l.from_ + l.used + n → d1.b.getD j 0 = (whole l t).getD (j - 128 * (l.from_ + l.used)) 0 := fun j a b => by
      rw [w2, if_pos ⟨a, b, hit_all _ _ _ _ _ hcut a b⟩]
    have w2o : ∀ j, ¬ (l.from_ + l.used ≤ j / 128 ∧ j / 128 < l.from_ + l.used + n) → d1.b.getD j 0 = d.b.getD j 0 := fun j a => by rw [w2, if_neg (fun hh => a ⟨hh.1, hh.2.1⟩)]
    have hl128 : ((laid 1 t).take 128).length = 128 * 1 := by rw [List.length_take, hll1]; omega
    obtain ⟨v1, v2, v3, v4, v5, v6⟩ := write_many d1 (l.from_ + l.used) 1 ((laid 1 t).take 128) hl128 (by omega) w4 (by rw [w5]; omega)
    obtain ⟨d2, hd2⟩ : ∃ d2, (write d1 ((l.from_ + l.used : Nat) : Int) ((laid 1 t).take 128)).1 = d2 := ⟨_, rfl⟩
    rw [hd2] at v1 v2 v4 v5 v6 ⊢
    -- the bytes behind both writes: those of the slot with one of the marks
    have hb2 : ∃ m : BitVec 8, (m = 0 ∨ m = 1) ∧ (¬ (0 ≤ d1.left ∧ d1.left < (1 : Nat)) → m = 1) ∧
        (∀ j, j < 128 * taken t.length → d2.b.getD (128 * (l.from_ + l.used) + j) 0 = (laid m t).getD j 0) := by
      refine ⟨if hit d1.left d1.mask (l.from_ + l.used) (128 * (l.from_ + l.used)) = true then 1 else 0, by split <;> simp, fun hh => by rw [if_pos (hit_all _ _ _ 1 _ hh (by omega) (by omega))], fun j hj => ?_⟩
      rw [v2]
      have hd1j : d1.b.getD (128 * (l.from_ + l.used) + j) 0 = (laid 0 t).getD j 0 := by
        rw [w2' _ (by omega) (by omega), show 128 * (l.from_ + l.used) + j - 128 * (l.from_ + l.used) = j by omega, hwg j hj]
      by_cases hj0 : j = 0
      · subst hj0
        rw [Nat.add_zero]
        by_cases hh : hit d1.left d1.mask (l.from_ + l.used) (128 * (l.from_ + l.used)) = true
        · rw [if_pos ⟨by omega, by omega, hh⟩, if_pos hh, show 128 * (l.from_ + l.used) - 128 * (l.from_ + l.used) = 0 by omega, Num.getD_take _ _ _ (by omega)]
        · rw [if_neg (fun x => hh x.2.2), if_neg hh]; exact hd1j
      · rw [laid_other _ 0 t j hj0]
        split
        · rw [show 128 * (l.from_ + l.used) + j - 128 * (l.from_ + l.used) = j by omega, Num.getD_take _ _ _ (by omega), laid_other 1 0 t j hj0]
        · exact hd1j
    have hb2n : l.used + taken t.length < l.sectors → d2.b.getD (128 * (l.from_ + l.used) + 128 * taken t.length) 0 = 0 := fun hh => by
      have hn' := hn1.2.2.1 hh
      rw [v2, if_neg (by omega), w2' _ (by omega) (by omega), show 128 * (l.from_ + l.used) + 128 * taken t.length - 128 * (l.from_ + l.used) = 128 * taken t.length by omega]
      exact hwz _ (Nat.le_refl _)
    have hb2o : ∀ j, j < 128 * l.used → d2.b.getD (128 * l.from_ + j) 0 = d.b.getD (128 * l.from_ + j) 0 := fun j hj => by
      rw [v2, if_neg (by omega), w2o _ (by omega)]
    obtain ⟨m, hm01, hm1, hbm⟩ := hb2
    obtain ⟨r1, r2⟩ := region_ext d d2 l.from_ l.sectors l.used (v1.trans w1) hb2o hfitd hle
    have hmore : m = 1 → parse l.sectors (region d2 l.from_ l.sectors) = (l.texts ++ [t], true) := fun hm => by
      subst hm
      have hlen2 : (region d2 l.from_ l.sectors).length = 128 * l.sectors := by omega
      refine parse_more l.sectors _ _ t ((region d2 l.from_ l.sectors).drop (128 * (l.used + taken t.length))) l.texts (by omega) h.parse_eq r1 (by rw [← h.used_eq]; exact r2) ?_ (fun hy => ?_) ht
      · rw [← h.used_eq]
        refine ext_getD (by rw [List.length_drop, List.length_append, hll1, List.length_drop, hlen2]; omega) fun j hj => ?_
        have hj' : j < 128 * l.sectors - 128 * l.used := by simpa [hlen2] using hj
        have e1 : ((region d2 l.from_ l.sectors).drop (128 * l.used)).getD j 0 = d2.b.getD (128 * (l.from_ + l.used) + j) 0 := by
          rw [show ((region d2 l.from_ l.sectors).drop (128 * l.used)).getD j 0 = (region d2 l.from_ l.sectors).getD (128 * l.used + j) 0 by simp [List.getD], region_getD _ _ _ _ (by omega)]
          congr 1; omega
        rw [e1]
        by_cases hjt : j < 128 * taken t.length
        · rw [hbm j hjt]
          simp only [List.getD]
          rw [List.getElem?_append_left (by omega)]
        · simp only [List.getD]
          rw [List.getElem?_append_right (by omega), hll1, List.getElem?_drop]
          have := region_getD d2 l.from_ l.sectors (128 * (l.used + taken t.length) + (j - 128 * taken t.length)) (by omega)
          simp only [List.getD] at this
          rw [this]
          congr 2; omega
      · have hlt : l.used + taken t.length < l.sectors := by
          rcases Nat.lt_or_ge (l.used + taken t.length) l.sectors with a | a
          · exact a
          · exact absurd (List.drop_of_length_le (by omega)) hy
        rw [show ((region d2 l.from_ l.sectors).drop (128 * (l.used + taken t.length))).getD 0 0 = (region d2 l.from_ l.sectors).getD (128 * (l.used + taken t.length)) 0 by simp [List.getD], region_getD _ _ _ _ (by omega),
          show 128 * l.from_ + 128 * (l.used + taken t.length) = 128 * (l.from_ + l.used) + 128 * taken t.length by omega]
        exact hb2n hlt
    by_cases hcut2 : 0 ≤ d1.left ∧ d1.left < (1 : Nat)
    · rw [if_pos hcut2] at v3 v4 v5
      rw [if_pos (by rw [v3]; decide)]
      refine .inr ⟨v3, v4, rfl, v5, ?_⟩
      rcases hm01 with rfl | rfl
      · left
        refine parse_same l.sectors _ _ l.texts (by omega) h.parse_eq r1 (by rw [← h.used_eq]; exact r2) (fun hh => ?_)
        rw [← h.used_eq] at hh ⊢
        rw [region_getD _ _ _ _ (by omega), show 128 * l.from_ + 128 * l.used = 128 * (l.from_ + l.used) + 0 by omega, hbm 0 (by omega)]
        exact h00
      · exact .inr (hmore rfl)
    · rw [if_neg hcut2] at v3 v4 v5
      rw [if_neg (by rw [v3]; decide)]
      refine .inl ⟨rfl, ⟨?_, ?_, hmore (hm1 hcut2)⟩, rfl, v4⟩
      · show 128 * (l.from_ + l.sectors) ≤ d2.b.length
        omega
      · show l.used + taken t.length = used (l.texts ++ [t])
        rw [used_append, ← h.used_eq]
        simp [used]
end Go.Proofs.Ytdnjjemdnlegdaa.Slo
