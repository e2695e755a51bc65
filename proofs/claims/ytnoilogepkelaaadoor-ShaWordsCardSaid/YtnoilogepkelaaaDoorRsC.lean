/-
  The document's sha: Primes, Start, Adds.
-/
import Derived.Test.YtnoilogepkelaaaDoorRsB
import Derived.Test.YtnoilogepkelaaaDoorSlW
namespace Go.Proofs.YtnoilogepkelaaaDoor
set_option linter.unusedVariables false
set_option linter.unusedSimpArgs false
open Go Go.RowKit

theorem info_u64 : (Tryd.prog.info? 68).map (fun i => (i.zero, i.size, i.bytes)) = some (some (.int .u64 0), 1, 8) := by kernel_rfl
theorem info_u32 : (Tryd.prog.info? 25).map (fun i => (i.zero, i.size, i.bytes)) = some (some (.int .u32 0), 1, 4) := by kernel_rfl
theorem one_long {E : TypeId} (w : World) (n : Int) (x : Nat) (h : n = (x : Int)) : SlU (w.alloc (.cells #[.int .u64 n] E)) (.slice (some ⟨w.heap.size, 0, none⟩) 1 1) [x] := by
  subst h
  exact SlU.block (heapA_new w _ _ rfl) 0 1 [x] (by simp) (by decide) (fun j hj => by
    have : j = 0 := by simp at hj; omega
    subst this
    rfl)
theorem one_word {E : TypeId} (w : World) (n : Int) (x : BitVec 32) (h : n = wv x) : SlW (w.alloc (.cells #[.int .u32 n] E)) (.slice (some ⟨w.heap.size, 0, none⟩) 1 1) [x] := by
  subst h
  exact SlW.block (heapA_new w _ _ rfl) 0 1 [x] (by simp) (by decide) (fun j hj => by
    have : j = 0 := by simp at hj; omega
    subst this
    rfl)
/-- What a call returns that makes numbers. -/
def RetU (w : World) (xs : List Nat) (e : Ending) (w' : World) : Prop := ∃ v, e = .returned v ∧ OwnU 68 w.heap.size w' v xs ∧ Below w.heap.size w w'
def RetW (w : World) (xs : List (BitVec 32)) (e : Ending) (w' : World) : Prop := ∃ v, e = .returned v ∧ OwnW 25 w.heap.size w' v xs ∧ Below w.heap.size w w'

theorem Rsh.tries_stop (l : List Nat) (c i f : Nat) (h : ¬ (i < l.length ∧ l.getD i 0 * l.getD i 0 ≤ c)) : Rsh.tries l c i (f + 1) = true := by
  unfold Rsh.tries
  rw [if_neg h]
theorem Rsh.tries_no (l : List Nat) (c i f : Nat) (h : i < l.length ∧ l.getD i 0 * l.getD i 0 ≤ c) (h0 : c % l.getD i 0 = 0) : Rsh.tries l c i (f + 1) = false := by
  unfold Rsh.tries
  rw [if_pos h, if_pos h0]
theorem Rsh.tries_on (l : List Nat) (c i f : Nat) (h : i < l.length ∧ l.getD i 0 * l.getD i 0 ≤ c) (h0 : ¬ c % l.getD i 0 = 0) : Rsh.tries l c i (f + 1) = Rsh.tries l c (i + 1) f := by
  conv => lhs; unfold Rsh.tries
  rw [if_pos h, if_neg h0]
theorem Rsh.cnt_le : ∀ n, n ≤ 310 → Rsh.cnt n ≤ 64 := by decide +kernel
theorem Rsh.primes_pos : ∀ i, i < 64 → 2 ≤ Rsh.primes.getD i 0 := by decide +kernel
theorem Rsh.pst_getD (n i : Nat) (hn : n ≤ 310) (h : i < (Rsh.pst n).length) : 2 ≤ (Rsh.pst n).getD i 0 ∧ (Rsh.pst n).getD i 0 ≤ 311 := by
  rw [Rsh.pst_eq n hn] at h ⊢
  rw [List.length_take] at h
  have hl : Rsh.primes.length = 64 := rfl
  have e : (Rsh.primes.take (Rsh.cnt n)).getD i 0 = Rsh.primes.getD i 0 := by
    simp only [List.getD]
    rw [List.getElem?_take_of_lt (by omega)]
  rw [e]
  exact ⟨Rsh.primes_pos i (by omega), Rsh.primes_le i (by omega)⟩
theorem Rsh.pst_length (n : Nat) (hn : n ≤ 310) : (Rsh.pst n).length = Rsh.cnt n := by
  rw [Rsh.pst_eq n hn, List.length_take]
  have := Rsh.cnt_le n hn
  have hl : Rsh.primes.length = 64 := rfl
  omega
/-- Behind how many tries there are so many primes. -/
theorem Rsh.cnt_many : ∀ n, n ≤ 310 → (Rsh.cnt n < 64 → n < 310) ∧ (Rsh.cnt n < 8 → n < 18) := by decide +kernel

set_option maxRecDepth 100000 in
set_option maxHeartbeats 4000000 in
theorem primes_any (many : Nat) (mI : Int) (hm : many = 8 ∧ mI = 8 ∨ many = 64 ∧ mI = 64) (w : World) : Calls Tryd.prog 65 #[.int .i64 mI] w (RetU w (Rsh.primes.take many)) := by
  have HC := Lib.hid (fun n (hn : n ≤ 310) => Rsh.cnt_many n hn)
  have HPL := Lib.hid (fun n (hn : n ≤ 310) => Rsh.pst_length n hn)
  have HPG := Lib.hid (fun n i (hn : n ≤ 310) (h : i < (Rsh.pst n).length) => Rsh.pst_getD n i hn h)
  have HPE := Lib.hid (fun n (hn : n ≤ 310) => Rsh.pst_eq n hn)
  have HPS := Lib.hid (fun n => (show Rsh.pst (n + 1) = if Rsh.isP (Rsh.pst n) (n + 2) = true then Rsh.pst n ++ [n + 2] else Rsh.pst n from rfl))
  have HM := Lib.hid hm
  have hmI : 8 ≤ mI ∧ mI ≤ 64 ∧ mI = (many : Int) := by omega
  have hm8 := hmI.1
  have hm64 := hmI.2.1
  have HMI := Lib.hid hmI.2.2
  clear hm hmI
  go_enter Tryd.func65, Tryd.ntmps65
  go_wp2
  go_loopw [3, 4] (fun s3 s4 wr => ∃ n c : Nat, n ≤ 310 ∧ s4 = .int .u64 c ∧ Hid (c = n + 2 ∧ Rsh.cnt n ≤ many) ∧ Hid (OwnU 68 w.heap.size wr s3 (Rsh.pst n)) ∧ Hid (Below w.heap.size w wr)) (fun _ s4 _ => 400 - (intOf s4).toNat)
  case atStart => exact ⟨0, 2, by omega, rfl, ⟨rfl, by rw [show Rsh.cnt 0 = 0 by decide]; omega⟩, OwnU.nil _ _ _, Below.refl _ _⟩
  case round =>
    obtain ⟨n, c, hn, rfl, HN, HO, HB⟩ := hrel
    have hsz := HB.out.size
    have hlen := HPL.out n hn
    obtain ⟨L, hL⟩ : ∃ L, Rsh.cnt n = L := ⟨_, rfl⟩
    rw [hL] at hlen
    have HLL := Lib.hid (And.intro hlen hL)
    have hsl := HO.out.sl
    obtain ⟨a3, cap3, rfl⟩ := hsl.len
    rw [hlen] at HO hsl ⊢
    have HSL := Lib.hid hsl
    have hLm : L ≤ 64 := by have h1 := HN.out.2; have h2 := HMI.out; rw [hL] at h1; omega
    clear hsl hlen hL
    by_cases hlt : (L : Int) < mI
    · have hn2 : n < 310 := by
        have h1 := HC.out n hn
        have h2 := HLL.out.2
        have h3 := HM.out
        rw [h2] at h1
        rcases h3 with ⟨_, h⟩ | ⟨_, h⟩
        · have := h1.2 (by omega); omega
        · exact h1.1 (by omega)
      have hcb : c ≤ 312 := by have := HN.out.1; omega
      have hc2 : 2 ≤ c := by have := HN.out.1; omega
      have HPI := Lib.hid (show Rsh.isP (Rsh.pst n) c = Rsh.tries (Rsh.pst n) c 0 (L + 1) by rw [Rsh.isP, HLL.out.1])
      have HTS := Lib.hid (fun i f => And.intro (Rsh.tries_stop (Rsh.pst n) c i f) (And.intro (Rsh.tries_no (Rsh.pst n) c i f) (Rsh.tries_on (Rsh.pst n) c i f)))
      have HGI := Lib.hid (fun i (h : i < L) => HPG.out n i hn (by rw [HLL.out.1]; exact h))
      have HNX := Lib.hid (show Rsh.pst (n + 1) = if Rsh.isP (Rsh.pst n) c = true then Rsh.pst n ++ [c] else Rsh.pst n by rw [HPS.out n, ← HN.out.1])
      have HCN := Lib.hid (show Rsh.cnt (n + 1) ≤ many by
        have h1 := HPL.out (n + 1) (by omega)
        have h2 := HMI.out
        have h3 : (Rsh.pst (n + 1)).length ≤ L + 1 := by
          rw [HNX.out]
          split
          · rw [List.length_append, HLL.out.1]; simp
          · rw [HLL.out.1]; omega
        omega)
      obtain ⟨q, hq⟩ : ∃ q, Rsh.isP (Rsh.pst n) c = q := ⟨_, rfl⟩
      rw [hq] at HPI HNX
      clear hq
      go_wp2
      go_loopw [5, 6] (fun s5 s6 wx => ∃ (i : Nat) (pr : Bool) (m : Nat), i ≤ L ∧ s6 = .int .i64 i ∧ s5 = .bool pr ∧ Hid ((pr = true → q = Rsh.tries (Rsh.pst n) c i (L - i + 1)) ∧ (pr = false → q = false)) ∧ wx = wr.drewN m) (fun _ s6 _ => L + 1 - (intOf s6).toNat)
      case atStart => exact ⟨0, true, 0, by omega, rfl, rfl, ⟨fun _ => HPI.out, fun h => by cases h⟩, rfl⟩
      case round =>
        obtain ⟨i, pr, m, hi, rfl, rfl, HQ, rfl⟩ := hrel
        have HOm := Lib.hid (show OwnU 68 w.heap.size (wr.drewN m) _ _ from HO.out)
        by_cases hil : i < L
        · cases pr with
          | true =>
            have hg := HGI.out i hil
            obtain ⟨b3, o3, k3, e3, _, _⟩ := HSL.out.open_ L HLL.out.1 (by omega)
            simp only [Value.slice.injEq] at e3
            obtain ⟨rfl, _, rfl⟩ := e3
            have c0 := HSL.out.cell i (by rw [HLL.out.1]; exact hil)
            unfold longV at c0
            have ht := HTS.out i (L - i)
            have hq0 := HQ.out.1 rfl
            rw [HLL.out.1] at ht
            obtain ⟨y, hy⟩ : ∃ y, (Rsh.pst n).getD i 0 = y := ⟨_, rfl⟩
            rw [hy] at hg c0 ht
            have hil' : (i : Int) < (L : Int) := by omega
            obtain ⟨sq, hsq⟩ : ∃ s, y * y = s := ⟨_, rfl⟩
            have hsb : sq ≤ 96721 := by rw [← hsq]; exact Nat.mul_le_mul hg.2 hg.2
            have e1 : (y : Int) * (y : Int) = (sq : Int) := by rw [← hsq]; simp
            have w1 : IntKind.u64.wrap ((y : Int) * (y : Int)) = (sq : Int) := by rw [e1, wrap_u64_mod]; omega
            have v1 : (y : Int) * (y : Int) % 18446744073709551616 = (sq : Int) := by rw [e1]; omega
            rw [hsq] at ht
            have hy0 := hg.1
            have hy1 : (0 : Int) < (y : Int) := by omega
            have HT := Lib.hid ht
            have HQ0 := Lib.hid hq0
            clear hg ht hq0 hsq HQ
            by_cases hle : sq ≤ c
            · have hle' : (sq : Int) ≤ (c : Int) := by omega
              by_cases hd : c % y = 0
              · have hq1 : q = false := HQ0.out.trans (HT.out.2.1 ⟨hil, hle⟩ hd)
                have hd' : (c : Int) % (y : Int) = 0 := by omega
                have HQ1 := Lib.hid hq1
                clear hq1 hd
                go_upto_region 7 with fail
                go_quiet (fail)
                go_wp2
                exact ⟨⟨i + 1, false, _, by omega, by go_num, rfl, ⟨(fun h => by cases h), fun _ => HQ1.out⟩, rfl⟩, by simp [intOf]; omega⟩
              · have hq1 : q = Rsh.tries (Rsh.pst n) c (i + 1) (L - (i + 1) + 1) := by
                  have h5 := HQ0.out.trans (HT.out.2.2 ⟨hil, hle⟩ hd)
                  rw [show L - i = L - (i + 1) + 1 by omega] at h5
                  exact h5
                obtain ⟨rm, hrm, hrm0⟩ : ∃ r : Nat, (c : Int) % (y : Int) = (r : Int) ∧ 0 < r := ⟨c % y, by omega, by omega⟩
                have hd2 : ((rm : Int) != 0) = true := by simp; omega
                have hd3 : ¬ (rm : Int) = 0 := by omega
                have hd4 : ¬ rm = 0 := by omega
                have HQ1 := Lib.hid hq1
                clear hq1 hd
                go_upto_region 7 with fail
                go_quiet (fail)
                go_wp2
                exact ⟨⟨i + 1, true, _, by omega, by go_num, rfl, ⟨fun _ => HQ1.out, fun h => by cases h⟩, rfl⟩, by simp [intOf]; omega⟩
            · have hle' : decide ((sq : Int) ≤ (c : Int)) = false := by simp; omega
              have hle'' : ¬ (sq : Int) ≤ (c : Int) := by omega
              obtain rfl : q = true := HQ0.out.trans (HT.out.1 (fun h => hle h.2))
              rw [if_pos rfl] at HNX
              clear hle HT HQ0
              go_upto_region 7 with fail
              go_quiet (fail)
              go_wp2_with (at_builtin; refine wpList_append_u rfl (.tmp 43) (.tmp 45) 90 68 rfl Tryd.underlying90 info_u64 w.heap.size _ _ (show OwnU 68 w.heap.size ((wr.drewN _).alloc _) _ _ from HO.out.alloc _) rfl _ [c] (one_long _ _ c rfl) rfl (by rw [HLL.out.1]; simp; omega) (by simp; omega) ?_; intro v9 w9 ho hg hn'; rw [← HNX.out] at ho; have HO9 := Lib.hid ho; have HB9 := Lib.hid (((Below.drewN HB.out _).alloc hsz _).grown hg (by simp; omega) (fun k e => (World.ownsRow.lt HO.out k e).1)); clear ho hg hn')
              exact ⟨⟨n + 1, c + 1, by omega, by go_num, Lib.hid ⟨by have := HN.out.1; omega, HCN.out⟩, HO9, HB9⟩, by simp [intOf]; omega⟩
          | false =>
            obtain rfl : q = false := HQ.out.2 rfl
            have hil' : (i : Int) < (L : Int) := by omega
            clear HQ
            go_upto_region 7 with fail
            go_quiet (fail)
            rw [if_neg (by simp)] at HNX
            go_wp2
            exact ⟨⟨n + 1, c + 1, by omega, by go_num, Lib.hid ⟨by have := HN.out.1; omega, HCN.out⟩, (by rw [HNX.out]; exact HO), Lib.hid (Below.drewN HB.out _)⟩, by simp [intOf]; omega⟩
        · have hil' : ¬ (i : Int) < (L : Int) := by omega
          have hil'' : decide ((i : Int) < (L : Int)) = false := by simp; omega
          obtain rfl : i = L := by omega
          cases pr with
          | true =>
            have ht := HTS.out i (i - i)
            have hq0 := HQ.out.1 rfl
            obtain rfl : q = true := hq0.trans (ht.1 (fun h => by have h1 := h.1; have h2 := HLL.out.1; omega))
            rw [if_pos rfl] at HNX
            clear ht hq0 HQ
            go_upto_region 7 with fail
            go_quiet (fail)
            go_wp2_with (at_builtin; refine wpList_append_u rfl (.tmp 43) (.tmp 45) 90 68 rfl Tryd.underlying90 info_u64 w.heap.size _ _ (show OwnU 68 w.heap.size ((wr.drewN _).alloc _) _ _ from HO.out.alloc _) rfl _ [c] (one_long _ _ c rfl) rfl (by rw [HLL.out.1]; simp; omega) (by simp; omega) ?_; intro v9 w9 ho hg hn'; rw [← HNX.out] at ho; have HO9 := Lib.hid ho; have HB9 := Lib.hid (((Below.drewN HB.out _).alloc hsz _).grown hg (by simp; omega) (fun k e => (World.ownsRow.lt HO.out k e).1)); clear ho hg hn')
            exact ⟨⟨n + 1, c + 1, by omega, by go_num, Lib.hid ⟨by have := HN.out.1; omega, HCN.out⟩, HO9, HB9⟩, by simp [intOf]; omega⟩
          | false =>
            obtain rfl : q = false := HQ.out.2 rfl
            clear HQ
            go_upto_region 7 with fail
            go_quiet (fail)
            rw [if_neg (by simp)] at HNX
            go_wp2
            exact ⟨⟨n + 1, c + 1, by omega, by go_num, Lib.hid ⟨by have := HN.out.1; omega, HCN.out⟩, (by rw [HNX.out]; exact HO), Lib.hid (Below.drewN HB.out _)⟩, by simp [intOf]; omega⟩
    · go_wp2
      go_ret
      have hLM : L = many := by
        have h1 := HN.out.2
        have h2 := HMI.out
        rw [HLL.out.2] at h1
        omega
      have he := HPE.out n hn
      rw [HLL.out.2, hLM] at he
      rw [he] at HO
      exact ⟨_, rfl, HO.out, HB.out⟩
end Go.Proofs.YtnoilogepkelaaaDoor
