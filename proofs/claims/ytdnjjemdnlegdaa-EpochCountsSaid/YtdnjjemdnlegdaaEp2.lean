/-
  Package epoch: Open.
-/
import Derived.Test.YtdnjjemdnlegdaaEp1
namespace Go.Proofs.Ytdnjjemdnlegdaa
set_option linter.unusedVariables false
set_option linter.unusedSimpArgs false
open Go Go.RowKit

/-- A counter in memory. -/
def CtrAt (w : World) (c p : Nat) (fr bound value : Int) : Prop := w.heap[c]? = some (.cells #[.pointer (some ⟨p, 0, none⟩), .int .i64 fr, .int .i64 bound, .int .i64 value] 87 (0, 0))

def EpOpen (d : Dk.D) (p : Nat) (fr sectors : Int) (w : World) (e : Ending) (w' : World) : Prop :=
  Below w.heap.size w w' ∧
  (((Dk.read d fr sectors).2 ≠ 0 ∧ e = .returned (.tuple #[.pointer none, .int .i64 (Dk.read d fr sectors).2])) ∨
   ((Dk.read d fr sectors).2 = 0 ∧ sectors < 1 ∧ e = .returned (.tuple #[.pointer none, .int .i64 2])) ∨
   ((Dk.read d fr sectors).2 = 0 ∧ 1 ≤ sectors ∧ (∀ n, ¬ Ep.Tells (Dk.read d fr sectors).1 n) ∧ e = .returned (.tuple #[.pointer none, .int .i64 9])) ∨
   ((Dk.read d fr sectors).2 = 0 ∧ 1 ≤ sectors ∧ ∃ n c, Ep.Tells (Dk.read d fr sectors).1 n ∧ e = .returned (.tuple #[.pointer (some ⟨c, 0, none⟩), .int .i64 0]) ∧ w.heap.size ≤ c ∧ CtrAt w' c p fr ((Dk.read d fr sectors).1.length : Int) n))

theorem read_length (d : Dk.D) (hd : Dk.Ok d) (fr sectors : Int) (h : (Dk.read d fr sectors).2 = 0) : ((Dk.read d fr sectors).1.length : Int) = 128 * sectors ∧ (Dk.read d fr sectors).1.length ≤ 2097152 := by
  by_cases hm : Dk.may d fr sectors = 0
  · have h2 := (Dk.may_zero d fr sectors).1 hm
    obtain ⟨n, h3, h4, h5⟩ := hd.size
    unfold Dk.read
    rw [if_neg (by omega)]
    simp only [List.length_take, List.length_drop]
    omega
  · unfold Dk.read at h
    rw [if_pos hm] at h
    exact absurd h hm

theorem tells_of_idx {b : List (BitVec 8)} {r : Int} (h : IdxAt (fun x => decide (x ≠ 1)) b r) (n : Nat) (hn : (n : Int) = if r < 0 then (b.length : Int) else r) :
    n ≤ b.length ∧ (∀ j, j < n → b.getD j 0 = 1) ∧ ∀ m, Ep.Tells b m → m = n := by
  rcases h with ⟨rfl, h⟩ | ⟨k, rfl, hk, hp, h⟩
  · rw [if_pos (by omega)] at hn
    obtain rfl : n = b.length := by omega
    have h' : ∀ j, j < b.length → b.getD j 0 = 1 := fun j hj => by simpa using h j hj
    exact ⟨Nat.le_refl _, h', fun m hm => hm.uniq ⟨Nat.le_refl _, h', fun j h1 h2 => absurd h2 (by omega)⟩⟩
  · rw [if_neg (by omega)] at hn
    obtain rfl : n = k := by omega
    have h' : ∀ j, j < n → b.getD j 0 = 1 := fun j hj => by simpa using h j hj
    refine ⟨by omega, h', fun m hm => ?_⟩
    have h1 : b.getD n 0 ≠ 1 := by simpa using hp
    rcases Nat.lt_trichotomy m n with hl | he | hl
    · have h2 := hm.2.2 m (Nat.le_refl _) (by omega)
      rw [h' m hl] at h2
      exact absurd h2 (by decide)
    · exact he
    · exact absurd (hm.2.1 n hl) h1

set_option maxRecDepth 100000 in
set_option maxHeartbeats 1000000 in
theorem ep_open {w : World} {p g : Nat} {d : Dk.D} (h : DiskAt w p g d) (fr sectors : Int) (ha : fr ≤ 9223372036854775807) (hn : sectors ≤ 9223372036854775807) (hn0 : -9223372036854775808 ≤ sectors) :
    Calls Try.prog 41 #[.pointer (some ⟨p, 0, none⟩), .int .i64 fr, .int .i64 sectors] w (EpOpen d p fr sectors w) := by
  have HR := Lib.hid (dk_read h fr sectors ha hn hn0)
  have HLEN := Lib.hid (read_length d h.ok fr sectors)
  have hfin : ∀ e w', EpOpen d p fr sectors w e w' → EpOpen d p fr sectors w e w' := fun e w' h => h
  have HE := Lib.hid (show ∀ e w', EpOpen d p fr sectors w e w' ↔ (Below w.heap.size w w' ∧
  (((Dk.read d fr sectors).2 ≠ 0 ∧ e = .returned (.tuple #[.pointer none, .int .i64 (Dk.read d fr sectors).2])) ∨
   ((Dk.read d fr sectors).2 = 0 ∧ sectors < 1 ∧ e = .returned (.tuple #[.pointer none, .int .i64 2])) ∨
   ((Dk.read d fr sectors).2 = 0 ∧ 1 ≤ sectors ∧ (∀ n, ¬ Ep.Tells (Dk.read d fr sectors).1 n) ∧ e = .returned (.tuple #[.pointer none, .int .i64 9])) ∨
   ((Dk.read d fr sectors).2 = 0 ∧ 1 ≤ sectors ∧ ∃ n c, Ep.Tells (Dk.read d fr sectors).1 n ∧ e = .returned (.tuple #[.pointer (some ⟨c, 0, none⟩), .int .i64 0]) ∧ w.heap.size ≤ c ∧ CtrAt w' c p fr ((Dk.read d fr sectors).1.length : Int) n))) from fun e w' => Iff.rfl)
  generalize EpOpen d p fr sectors w = post at HE ⊢
  generalize (Dk.read d fr sectors).1 = bs at *
  generalize (Dk.read d fr sectors).2 = er at *
  clear h hfin
  by_cases he : er = 0
  · subst he
    have hl := HLEN.out rfl
    clear HLEN
    by_cases hs : sectors < 1
    · have F := Lib.hid (show ∀ w', Below w.heap.size w w' → post (.returned (.tuple #[.pointer none, .int .i64 2])) w' from fun w' hb => (HE.out _ w').2 ⟨hb, .inr (.inl ⟨rfl, hs, rfl⟩)⟩)
      clear hl HE
      go_enter Try.func41, Try.ntmps41
      go_wp2_with (go_at_call 26; refine HR.out.mono ?_; rintro e w1 ⟨v1, rfl, ho, hb⟩; have HB := Lib.hid hb; clear ho hb)
      exact F.out _ HB.out
    · have F1 := Lib.hid (show (∀ n, ¬ Ep.Tells bs n) → ∀ w', Below w.heap.size w w' → post (.returned (.tuple #[.pointer none, .int .i64 9])) w' from fun ht w' hb => (HE.out _ w').2 ⟨hb, .inr (.inr (.inl ⟨rfl, by omega, ht, rfl⟩))⟩)
      have F2 := Lib.hid (show ∀ n c, Ep.Tells bs n → w.heap.size ≤ c → ∀ w', CtrAt w' c p fr (bs.length : Int) n → Below w.heap.size w w' → post (.returned (.tuple #[.pointer (some ⟨c, 0, none⟩), .int .i64 0])) w' from fun n c ht hc w' hC hb => (HE.out _ w').2 ⟨hb, .inr (.inr (.inr ⟨rfl, by omega, n, c, ht, rfl, hc, hC⟩))⟩)
      clear HE
      obtain ⟨L, hL⟩ : ∃ L, bs.length = L := ⟨_, rfl⟩
      rw [hL] at hl F2
      have F2 := Lib.hid F2.out
      have HL := Lib.hid hL
      have hl1 : 128 ≤ L := by omega
      have hl2 := hl.2
      clear hL hl
      go_enter Try.func41, Try.ntmps41
      go_upto_region 6 with (go_at_call 26; refine HR.out.mono ?_; rintro e w1 ⟨v1, rfl, ho, hb⟩; obtain ⟨g1, cap, rfl, hg1, hg2, hcap, hsl⟩ := ho.form L HL.out (by omega); have HB := Lib.hid hb; have HSL := Lib.hid hsl; clear ho hb hsl)
      go_upto_region 7 with (go_at_call 59; refine (idx_any 60 call_ne1 _ ep_ne1 _ bs _ HSL.out).mono ?_; rintro e w' ⟨r, rfl, hr, rfl⟩; have HRR := Lib.hid hr; have hr0 : -1 ≤ r := (by rcases hr with ⟨rfl, _⟩ | ⟨k, rfl, _⟩ <;> omega); have hrl : r ≤ L := (by rcases hr with ⟨rfl, _⟩ | ⟨k, rfl, hk, _⟩; omega; have := HL.out; omega); clear hr)
      go_upto_if 28 with (fail)
      go_cut [10] (fun s10 wx => wx = w1 ∧ ∃ n : Nat, s10 = .int .i64 n ∧ n ≤ L ∧ Hid ((n : Int) = if r < 0 then (L : Int) else r))
      case first =>
        by_cases hr1 : r < 0
        · have HNN := Lib.hid (show ((L : Nat) : Int) = if r < 0 then (L : Int) else r by rw [if_pos hr1])
          go_wp2_with fail
          go_meet
          case rel => exact ⟨rfl, L, rfl, Nat.le_refl _, HNN⟩
        · obtain ⟨n, rfl⟩ := Int.eq_ofNat_of_zero_le (show 0 ≤ r by omega)
          have HNN := Lib.hid (show ((n : Nat) : Int) = if (n : Int) < 0 then (L : Int) else (n : Int) by rw [if_neg hr1])
          have hnl : n ≤ L := by omega
          go_wp2_with fail
          go_meet
          case rel => exact ⟨rfl, n, rfl, hnl, HNN⟩
      case rest =>
        obtain ⟨rfl, n, rfl, hnl, HNN⟩ := hcut
        have hnn := HNN.out
        rw [← HL.out] at hnn
        have ht := tells_of_idx HRR.out n hnn
        have HT := Lib.hid ht
        clear ht hnn HRR hr0 hrl HNN
        have hsl := HSL.out
        have hLb : bs.length = L := HL.out
        have hcut : ∃ b : Bool, (b = true ↔ ∃ j, j < (bs.drop n).length ∧ (fun x => decide (x ≠ (0 : BitVec 8))) ((bs.drop n).getD j 0) = true) ∧ ((b = false ∧ Ep.Tells bs n) ∨ (b = true ∧ ∀ m, ¬ Ep.Tells bs m)) := by
          by_cases hz : ∀ j, n ≤ j → j < L → bs.getD j 0 = 0
          · refine ⟨false, ⟨fun h => absurd h (by simp), ?_⟩, .inl ⟨rfl, HT.out.1, HT.out.2.1, fun j h1 h2 => hz j h1 (by omega)⟩⟩
            rintro ⟨j, hj, hp⟩
            rw [List.length_drop, hLb] at hj
            have := hz (n + j) (by omega) (by omega)
            simp only [List.getD, List.getElem?_drop] at hp this
            rw [this] at hp
            simp at hp
          · simp only [Classical.not_forall] at hz
            obtain ⟨j, h1, h2, h3⟩ := hz
            refine ⟨true, ⟨fun _ => ⟨j - n, by rw [List.length_drop, hLb]; omega, ?_⟩, fun _ => rfl⟩, .inr ⟨rfl, fun m hm => ?_⟩⟩
            · simp only [List.getD, List.getElem?_drop, show n + (j - n) = j by omega] at h3 ⊢
              simpa using h3
            · obtain rfl := HT.out.2.2 m hm
              exact h3 (hm.2.2 j h1 (by omega))
        obtain ⟨b, hbi, hbc⟩ := hcut
        have HBI := Lib.hid hbi
        have hd : (¬ cap = n → SlB wc (.slice (some ⟨g1, n, none⟩) (L - n) (cap - n)) (bs.drop n)) ∧ (cap = n → SlB wc (.slice (some ⟨g1, 0, none⟩) (L - n) 0) (bs.drop n)) := by
          constructor
          · intro _
            have := hsl.drop n (by omega)
            rw [Nat.zero_add] at this
            exact this
          · intro e
            rw [show L - n = 0 by omega]
            exact .inl ⟨⟨_, rfl⟩, List.drop_of_length_le (by omega)⟩
        have HDD := Lib.hid hd
        clear hsl hLb hbi hd HT
        by_cases hcn : cap = n
        all_goals
          first | have hs1 := HDD.out.1 hcn | have hs1 := HDD.out.2 hcn
          have HCT := Lib.hid (contains_any 62 call_ne0 _ ep_ne0 _ (bs.drop n) wc hs1 b HBI.out)
          clear HDD hs1 HSL HBI
          first | have hz' : cap - n = 0 := by omega | have hz' : ¬ cap - n = 0 := by omega
          rcases hbc with ⟨rfl, ht⟩ | ⟨rfl, ht⟩
          · have F := Lib.hid (F2.out n wc.heap.size ht HB.out.size)
            clear F1 F2 ht
            go_wp2_with (go_at_call 61; refine HCT.out.mono ?_; rintro e w' ⟨rfl, rfl⟩)
            refine F.out _ ?_ (HB.out.alloc HB.out.size _)
            exact heapA_new _ _ _ rfl
          · have F := Lib.hid (F1.out ht)
            clear F1 F2 ht
            go_wp2_with (go_at_call 61; refine HCT.out.mono ?_; rintro e w' ⟨rfl, rfl⟩)
            exact F.out _ HB.out
  · have he' : (er != 0) = true := by simpa using he
    have F := Lib.hid (show ∀ w', Below w.heap.size w w' → post (.returned (.tuple #[.pointer none, .int .i64 er])) w' from fun w' hb => (HE.out _ w').2 ⟨hb, .inl ⟨he, rfl⟩⟩)
    clear HE HLEN he
    go_enter Try.func41, Try.ntmps41
    go_wp2_with (go_at_call 26; refine HR.out.mono ?_; rintro e w1 ⟨v1, rfl, ho, hb⟩; have HB := Lib.hid hb; clear ho hb)
    exact F.out _ HB.out
end Go.Proofs.Ytdnjjemdnlegdaa
