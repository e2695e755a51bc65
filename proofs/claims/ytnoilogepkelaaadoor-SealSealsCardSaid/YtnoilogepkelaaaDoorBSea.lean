/-
  The seal's laws: the document's Bucket; long; the law SealBuckets.
-/
import Derived.Test.YtnoilogepkelaaaDoorBHma
import Derived.Test.YtnoilogepkelaaaDoorBBase
import Derived.Test.YtnoilogepkelaaaDoorBCha
import Derived.Test.YtnoilogepkelaaaDoorBSha
import Derived.Deep.QuietTactic
import Derived.BigQuiet
import Derived.Test.YtnoilogepkelaaaDoorBRSha
import Derived.Deep.CutBlock
namespace Go.Proofs.YtnoilogepkelaaaDoor
set_option linter.unusedVariables false
set_option linter.unusedSimpArgs false
open Go Go.RowKit

/-- Derive of one part, of two parts that lie in a new block. -/
theorem derive1 (key name p : List (BitVec 8)) (hk : key.length = 32) (hn : name.length ≤ 1000000) (u : Value) (w : World) (E : TypeId) (hs : SlB w u p) (hp : p.length ≤ 1000000) (hG : Glob w) :
    Calls Tryd.prog 45 #[.agg (bytes key), .string (strB name), .slice (some ⟨w.heap.size, 0, none⟩) 1 1] (w.alloc (.cells #[u] E)) fun e w' => e = .returned (.agg (bytes (Hma.derive_ key name [p]))) ∧ Below w.heap.size w w' := by
  refine (derive_any key name [p] hk hn [u] _ _ (SlL.block [u] (heap_alloc_new w _) 1 rfl (by simp)) rfl (fun j hj => ?_) (fun j hj => ?_) (by simp) (hG.below ((Below.refl _ w).alloc (Nat.le_refl _) _) hG.size)).mono ?_
  · obtain rfl : j = 0 := by simp at hj; omega
    exact hs.alloc _
  · obtain rfl : j = 0 := by simp at hj; omega
    exact hp
  · rintro e w' ⟨rfl, hb⟩
    exact ⟨rfl, ((Below.refl _ w).alloc (Nat.le_refl _) _).trans (hb.mono (by simp))⟩
theorem derive1g (key name p : List (BitVec 8)) (hk : key.length = 32) (hn : name.length ≤ 1000000) (u : Value) (w : World) (g : Nat) (E : TypeId) (fr : Nat × Nat) (hg : w.heap[g]? = some (.cells #[u] E fr)) (hs : SlB w u p) (hp : p.length ≤ 1000000) (hG : Glob w) :
    Calls Tryd.prog 45 #[.agg (bytes key), .string (strB name), .slice (some ⟨g, 0, none⟩) 1 1] w fun e w' => e = .returned (.agg (bytes (Hma.derive_ key name [p]))) ∧ Below w.heap.size w w' := by
  refine derive_any key name [p] hk hn [u] _ _ (SlL.block [u] hg 1 rfl (by simp)) rfl (fun j hj => ?_) (fun j hj => ?_) (by simp) hG
  · obtain rfl : j = 0 := by simp at hj; omega
    exact hs
  · obtain rfl : j = 0 := by simp at hj; omega
    exact hp
end Go.Proofs.YtnoilogepkelaaaDoor
namespace Go.Proofs.YtnoilogepkelaaaDoor.Sea
open Num
set_option linter.unusedVariables false
set_option linter.unusedSimpArgs false

/-- Doubled till it is enough. -/
def dbl : Nat → Nat → Nat → Nat
  | 0, b, _ => b
  | f + 1, b, m => if b < m then dbl f (2 * b) m else b
def bucket (n : Nat) : Nat := if n ≤ 131068 then dbl 11 64 (n + 4) else 0
theorem dbl_spec (f b m : Nat) (h : m ≤ b * 2 ^ f) : m ≤ dbl f b m ∧ b ≤ dbl f b m ∧ (dbl f b m = b ∨ dbl f b m < 2 * m) ∧ ∃ k, k ≤ f ∧ dbl f b m = b * 2 ^ k := by
  induction f generalizing b with
  | zero => exact ⟨by simpa [dbl] using h, Nat.le_refl _, .inl rfl, 0, Nat.le_refl _, by simp [dbl]⟩
  | succ f ih =>
    unfold dbl
    by_cases hb : b < m
    · rw [if_pos hb]
      obtain ⟨h1, h2, h3, k, hk, hv⟩ := ih (2 * b) (by rw [Nat.pow_succ, ← Nat.mul_assoc, Nat.mul_comm] at h; rwa [Nat.mul_assoc])
      refine ⟨h1, by omega, .inr (by omega), k + 1, by omega, ?_⟩
      rw [hv, Nat.pow_succ, ← Nat.mul_assoc, Nat.mul_comm _ 2, Nat.mul_assoc]
    · rw [if_neg hb]
      exact ⟨by omega, Nat.le_refl _, .inl rfl, 0, by omega, by simp⟩
theorem dbl_step (f b m : Nat) (h : b < m) : dbl (f + 1) b m = dbl f (2 * b) m := by rw [dbl, if_pos h]
theorem dbl_stop (f b m : Nat) (h : ¬ b < m) : dbl f b m = b := by
  cases f with
  | zero => rfl
  | succ f => rw [dbl, if_neg h]
theorem bucket_spec (n : Nat) (h : n ≤ 131068) : n + 4 ≤ bucket n ∧ 64 ≤ bucket n ∧ bucket n ≤ 131072 ∧ (bucket n = 64 ∨ bucket n < 2 * (n + 4)) ∧ ∃ k, k ≤ 11 ∧ bucket n = 64 * 2 ^ k := by
  unfold bucket
  rw [if_pos h]
  obtain ⟨h1, h2, h3, k, hk, hv⟩ := dbl_spec 11 64 (n + 4) (by omega)
  refine ⟨h1, h2, ?_, h3, k, hk, hv⟩
  rw [hv]
  exact Nat.mul_le_mul_left 64 (Nat.pow_le_pow_right (by omega) hk)
theorem bucket_none (n : Nat) (h : 131068 < n) : bucket n = 0 := by unfold bucket; rw [if_neg (by omega)]
theorem bucket_le (n : Nat) : bucket n ≤ 131072 := by
  by_cases h : n ≤ 131068
  · exact (bucket_spec n h).2.2.1
  · rw [bucket_none n (by omega)]; omega
theorem bucket_of_pow : ∀ k, k < 12 → bucket (64 * 2 ^ k - 4) = 64 * 2 ^ k := by decide
/-- Of which numbers a bucket is the bucket. -/
theorem bucket_fits (n : Nat) (h : 64 ≤ n) : bucket (n - 4) = n ↔ ∃ k, k ≤ 11 ∧ n = 64 * 2 ^ k := by
  constructor
  · intro e
    by_cases h1 : n - 4 ≤ 131068
    · obtain ⟨k, hk, hv⟩ := (bucket_spec (n - 4) h1).2.2.2.2
      exact ⟨k, hk, by omega⟩
    · rw [bucket_none _ (by omega)] at e; omega
  · rintro ⟨k, hk, rfl⟩
    exact bucket_of_pow k (by omega)

def encName : List (BitVec 8) := [101, 110, 99, 114, 121, 112, 116]
def tagName : List (BitVec 8) := [116, 97, 103]
def nonce (epoch pos : Nat) : List (BitVec 8) := num epoch 4 ++ num pos 8
theorem nonce_length (epoch pos : Nat) : (nonce epoch pos).length = 12 := by simp [nonce, num_length]
def stream (key ctx : List (BitVec 8)) (pos epoch : Nat) (b : List (BitVec 8)) : List (BitVec 8) := Cha.stream (Hma.derive_ key encName [ctx]) 1 (nonce epoch pos) b
def tagText (ctx : List (BitVec 8)) (pos epoch : Nat) (body : List (BitVec 8)) : List (BitVec 8) := num ctx.length 4 ++ ctx ++ num pos 8 ++ num epoch 4 ++ body
def tag_ (key ctx : List (BitVec 8)) (pos epoch : Nat) (body : List (BitVec 8)) : List (BitVec 8) := Hma.tag (Hma.derive_ key tagName [ctx]) (tagText ctx pos epoch body)
theorem stream_length (key ctx : List (BitVec 8)) (pos epoch : Nat) (b : List (BitVec 8)) : (stream key ctx pos epoch b).length = b.length := Cha.stream_length _ _ _ _
theorem stream_back (key ctx : List (BitVec 8)) (pos epoch : Nat) (b : List (BitVec 8)) : stream key ctx pos epoch (stream key ctx pos epoch b) = b := Cha.stream_back _ _ _ _
theorem tag_length (key ctx : List (BitVec 8)) (pos epoch : Nat) (b : List (BitVec 8)) : (tag_ key ctx pos epoch b).length = 32 := Hma.tag_length _ _
def padded (text : List (BitVec 8)) : List (BitVec 8) := num text.length 4 ++ text ++ List.replicate (bucket text.length - 4 - text.length) 0
theorem padded_length (text : List (BitVec 8)) (h : text.length ≤ 131068) : (padded text).length = bucket text.length := by
  have := (bucket_spec text.length h).1
  simp [padded, num_length]; omega
/-- What a text is sealed to. -/
def body (key ctx : List (BitVec 8)) (pos epoch : Nat) (text : List (BitVec 8)) : List (BitVec 8) := stream key ctx pos epoch (padded text)
def seal_ (key ctx : List (BitVec 8)) (pos epoch : Nat) (text : List (BitVec 8)) : List (BitVec 8) :=
  num epoch 4 ++ body key ctx pos epoch text ++ tag_ key ctx pos epoch (body key ctx pos epoch text)
theorem body_length (key ctx : List (BitVec 8)) (pos epoch : Nat) (text : List (BitVec 8)) (h : text.length ≤ 131068) : (body key ctx pos epoch text).length = bucket text.length := by
  unfold body; rw [stream_length, padded_length _ h]
theorem seal_length (key ctx : List (BitVec 8)) (pos epoch : Nat) (text : List (BitVec 8)) (h : text.length ≤ 131068) : (seal_ key ctx pos epoch text).length = 36 + bucket text.length := by
  simp [seal_, num_length, tag_length, body_length _ _ _ _ _ h]; omega
/-- A padded text's text. -/
def unpad (p : List (BitVec 8)) : Option (List (BitVec 8)) :=
  if val4 p + 4 ≤ p.length ∧ bucket (val4 p) = p.length ∧ p.drop (4 + val4 p) = List.replicate (p.length - 4 - val4 p) 0 then some ((p.drop 4).take (val4 p)) else none
/-- What bytes open to. -/
def open_ (key ctx : List (BitVec 8)) (pos : Nat) (s : List (BitVec 8)) : Option (List (BitVec 8) × Nat) :=
  if s.length < 100 ∨ bucket (s.length - 40) ≠ s.length - 36 then none
  else if tag_ key ctx pos (val4 s) ((s.drop 4).take (s.length - 36)) ≠ s.drop (s.length - 32) then none
  else (unpad (stream key ctx pos (val4 s) ((s.drop 4).take (s.length - 36)))).map (fun t => (t, val4 s))

theorem unpad_iff (p text : List (BitVec 8)) (h : 4 ≤ p.length) (hb : p.length ≤ 131072) : unpad p = some text ↔ text.length ≤ 131068 ∧ p = padded text := by
  unfold unpad
  constructor
  · intro e
    by_cases hc : val4 p + 4 ≤ p.length ∧ bucket (val4 p) = p.length ∧ p.drop (4 + val4 p) = List.replicate (p.length - 4 - val4 p) 0
    · rw [if_pos hc] at e
      obtain rfl : (p.drop 4).take (val4 p) = text := by simpa using e
      have hl : ((p.drop 4).take (val4 p)).length = val4 p := by simp; omega
      refine ⟨by omega, ?_⟩
      unfold padded
      rw [hl, num_val4 p h, hc.2.1, ← hc.2.2, List.append_assoc]
      conv => lhs; rw [← List.take_append_drop 4 p]
      congr 1
      conv => lhs; rw [← List.take_append_drop (val4 p) (p.drop 4)]
      rw [List.drop_drop]
    · rw [if_neg hc] at e; cases e
  · rintro ⟨hl, rfl⟩
    have hs := bucket_spec text.length hl
    have hv : val4 (padded text) = text.length := by unfold padded; rw [List.append_assoc]; exact val4_num _ (by omega) _
    have e1 : (padded text).drop 4 = text ++ List.replicate (bucket text.length - 4 - text.length) 0 := by
      unfold padded
      rw [List.append_assoc]
      exact List.drop_left' (num_length _ _)
    rw [hv, padded_length _ hl, if_pos ⟨by omega, rfl, by rw [← List.drop_drop, e1]; simp⟩, e1]
    simp
/-- A text that was sealed opens. -/
theorem open_seal (key ctx : List (BitVec 8)) (pos epoch : Nat) (text : List (BitVec 8)) (he : epoch < 4294967296) (h : text.length ≤ 131068) : open_ key ctx pos (seal_ key ctx pos epoch text) = some (text, epoch) := by
  have hs := bucket_spec text.length h
  have hl := seal_length key ctx pos epoch text h
  have hbl := body_length key ctx pos epoch text h
  have hv : val4 (seal_ key ctx pos epoch text) = epoch := by unfold seal_; rw [List.append_assoc]; exact val4_num _ he _
  have hbd : ((seal_ key ctx pos epoch text).drop 4).take (bucket text.length) = body key ctx pos epoch text := by
    unfold seal_
    rw [List.append_assoc, List.drop_left' (num_length _ _), List.take_left' hbl]
  have htg : (seal_ key ctx pos epoch text).drop (4 + bucket text.length) = tag_ key ctx pos epoch (body key ctx pos epoch text) := by
    unfold seal_
    exact List.drop_left' (by rw [List.length_append, num_length, hbl])
  unfold open_
  rw [hl, hv, show 36 + bucket text.length - 36 = bucket text.length by omega, show 36 + bucket text.length - 32 = 4 + bucket text.length by omega, show 36 + bucket text.length - 40 = bucket text.length - 4 by omega, hbd, htg]
  rw [if_neg (by
    rintro (h1 | h1)
    · omega
    · exact h1 ((bucket_fits _ hs.2.1).2 hs.2.2.2.2)), if_neg (by simp)]
  unfold body
  rw [stream_back, (unpad_iff _ text (by rw [padded_length _ h]; omega) (by rw [padded_length _ h]; omega)).2 ⟨h, rfl⟩]
  rfl
/-- What opens to something was sealed to it. -/
theorem open_iff (key ctx : List (BitVec 8)) (pos : Nat) (s text : List (BitVec 8)) (epoch : Nat) : open_ key ctx pos s = some (text, epoch) ↔ epoch < 4294967296 ∧ text.length ≤ 131068 ∧ s = seal_ key ctx pos epoch text := by
  constructor
  · unfold open_
    by_cases h1 : s.length < 100 ∨ bucket (s.length - 40) ≠ s.length - 36
    · rw [if_pos h1]; intro h; cases h
    rw [if_neg h1]
    by_cases h2 : tag_ key ctx pos (val4 s) ((s.drop 4).take (s.length - 36)) ≠ s.drop (s.length - 32)
    · rw [if_pos h2]; intro h; cases h
    rw [if_neg h2]
    have h1' : 100 ≤ s.length := by omega
    have hb := bucket_le (s.length - 40)
    have hb' : bucket (s.length - 40) = s.length - 36 := by omega
    have h2' : tag_ key ctx pos (val4 s) ((s.drop 4).take (s.length - 36)) = s.drop (s.length - 32) := Classical.not_not.1 h2
    have hbl : ((s.drop 4).take (s.length - 36)).length = s.length - 36 := by simp; omega
    intro h
    cases hu : unpad (stream key ctx pos (val4 s) ((s.drop 4).take (s.length - 36))) with
    | none => rw [hu] at h; cases h
    | some t =>
      rw [hu] at h
      simp only [Option.map_some, Option.some.injEq, Prod.mk.injEq] at h
      obtain ⟨rfl, rfl⟩ := h
      have hu' := (unpad_iff _ t (by rw [stream_length, hbl]; omega) (by rw [stream_length, hbl]; omega)).1 hu
      have hbd : body key ctx pos (val4 s) t = (s.drop 4).take (s.length - 36) := by unfold body; rw [← hu'.2, stream_back]
      refine ⟨val4_lt s, hu'.1, ?_⟩
      unfold seal_
      rw [hbd, h2', num_val4 s (by omega)]
      conv => lhs; rw [← List.take_append_drop 4 s]
      rw [List.append_assoc]
      congr 1
      conv => lhs; rw [← List.take_append_drop (s.length - 36) (s.drop 4)]
      rw [List.drop_drop, show 4 + (s.length - 36) = s.length - 32 by omega]
  · rintro ⟨he, hl, rfl⟩
    exact open_seal key ctx pos epoch text he hl
/-- The document's way: seal what comes, and compare. -/
theorem open_ref (key ctx : List (BitVec 8)) (pos : Nat) (s : List (BitVec 8)) (h1 : 100 ≤ s.length) (hb : bucket (s.length - 40) = s.length - 36) :
    open_ key ctx pos s =
      if val4 (stream key ctx pos (val4 s) ((s.drop 4).take (s.length - 36))) ≤ s.length - 40 ∧
        seal_ key ctx pos (val4 s) (((stream key ctx pos (val4 s) ((s.drop 4).take (s.length - 36))).drop 4).take (val4 (stream key ctx pos (val4 s) ((s.drop 4).take (s.length - 36))))) = s
      then some (((stream key ctx pos (val4 s) ((s.drop 4).take (s.length - 36))).drop 4).take (val4 (stream key ctx pos (val4 s) ((s.drop 4).take (s.length - 36)))), val4 s) else none := by
  have hle := bucket_le (s.length - 40)
  have hpl : (stream key ctx pos (val4 s) ((s.drop 4).take (s.length - 36))).length = s.length - 36 := by rw [stream_length]; simp; omega
  by_cases hc : val4 (stream key ctx pos (val4 s) ((s.drop 4).take (s.length - 36))) ≤ s.length - 40 ∧
        seal_ key ctx pos (val4 s) (((stream key ctx pos (val4 s) ((s.drop 4).take (s.length - 36))).drop 4).take (val4 (stream key ctx pos (val4 s) ((s.drop 4).take (s.length - 36))))) = s
  · rw [if_pos hc]
    exact (open_iff _ _ _ _ _ _).2 ⟨val4_lt s, by simp; omega, hc.2.symm⟩
  · rw [if_neg hc]
    cases ho : open_ key ctx pos s with
    | none => rfl
    | some r =>
      obtain ⟨t, e⟩ := r
      have hq := (open_iff _ _ _ _ _ _).1 ho
      exfalso
      apply hc
      have hv : val4 s = e := by rw [hq.2.2]; unfold seal_; rw [List.append_assoc]; exact val4_num _ hq.1 _
      have hsl := seal_length key ctx pos e t hq.2.1
      have hbt : bucket t.length = s.length - 36 := by have := congrArg List.length hq.2.2; omega
      have hbd : (s.drop 4).take (s.length - 36) = body key ctx pos e t := by
        rw [← hbt]
        conv => lhs; rw [hq.2.2]
        unfold seal_
        rw [List.append_assoc, List.drop_left' (num_length _ _), List.take_left' (body_length _ _ _ _ _ hq.2.1)]
      have hp : stream key ctx pos (val4 s) ((s.drop 4).take (s.length - 36)) = padded t := by rw [hbd, hv]; unfold body; rw [stream_back]
      have hvp : val4 (padded t) = t.length := by unfold padded; rw [List.append_assoc]; exact val4_num _ (by omega) _
      have htp : ((padded t).drop 4).take t.length = t := by
        unfold padded
        rw [List.append_assoc, List.drop_left' (num_length _ _)]
        simp
      rw [hp, hvp, htp, hv]
      have := (bucket_spec t.length hq.2.1).1
      exact ⟨by omega, hq.2.2.symm⟩
end Go.Proofs.YtnoilogepkelaaaDoor.Sea
namespace Go.Proofs.YtnoilogepkelaaaDoor
set_option linter.unusedVariables false
set_option linter.unusedSimpArgs false
open Go Go.RowKit
attribute [local go_sem] u32_or u32_shl8 u32_shl16 u32_shl24 u8_to_u32

theorem be4_val (a b c d : BitVec 8) : (Sha.be4 a b c d).toNat = 16777216 * a.toNat + 65536 * b.toNat + 256 * c.toNat + d.toNat := by
  have ha := a.isLt
  have hb := b.isLt
  have hc := c.isLt
  have hd := d.isLt
  obtain ⟨x, hx⟩ : ∃ x : BitVec 32, x = BitVec.ofNat 32 (16777216 * a.toNat + 65536 * b.toNat + 256 * c.toNat + d.toNat) := ⟨_, rfl⟩
  have hv : x.toNat = 16777216 * a.toNat + 65536 * b.toNat + 256 * c.toNat + d.toNat := by rw [hx, BitVec.toNat_ofNat]; omega
  have e : ∀ j, (Sha.byteOf x j).toNat = x.toNat / 2 ^ (24 - 8 * j) % 256 := fun j => by
    unfold Sha.byteOf
    rw [BitVec.toNat_setWidth, BitVec.toNat_ushiftRight, Nat.shiftRight_eq_div_pow]
  have h0 : Sha.byteOf x 0 = a := by apply BitVec.eq_of_toNat_eq; rw [e, hv]; omega
  have h1 : Sha.byteOf x 1 = b := by apply BitVec.eq_of_toNat_eq; rw [e, hv]; omega
  have h2 : Sha.byteOf x 2 = c := by apply BitVec.eq_of_toNat_eq; rw [e, hv]; omega
  have h3 : Sha.byteOf x 3 = d := by apply BitVec.eq_of_toNat_eq; rw [e, hv]; omega
  have := Sha.be4_bytes x
  rw [h0, h1, h2, h3] at this
  rw [this, hv]
theorem wv_be4 (xs : List (BitVec 8)) : wv (Sha.be4 (xs.getD 0 0) (xs.getD 1 0) (xs.getD 2 0) (xs.getD 3 0)) = ((Num.val4 xs : Nat) : Int) := by
  unfold wv Num.val4
  rw [be4_val]

theorem value_any (v : Value) (xs : List (BitVec 8)) (w : World) (h : SlB w v xs) (hl : 4 ≤ xs.length) :
    Calls Tryd.prog 82 #[v] w fun e w' => e = .returned (.int .u32 ((Num.val4 xs : Nat) : Int)) ∧ Below w.heap.size w w' := by
  rw [← wv_be4]
  rcases h with ⟨_, rfl⟩ | ⟨b, off, cap, rfl, h1, h2, h3, h4⟩
  · simp at hl
  · have c0 := h4 0 (by omega)
    have c1 := h4 1 (by omega)
    have c2 := h4 2 (by omega)
    have c3 := h4 3 (by omega)
    unfold byteV at c0 c1 c2 c3
    simp only [Nat.add_zero] at c0
    clear h4
    generalize xs.getD 0 0 = x0 at c0 ⊢
    generalize xs.getD 1 0 = x1 at c1 ⊢
    generalize xs.getD 2 0 = x2 at c2 ⊢
    generalize xs.getD 3 0 = x3 at c3 ⊢
    have l0 : (0 : Int) < (xs.length : Int) := by omega
    have l1 : (1 : Int) < (xs.length : Int) := by omega
    have l2 : (2 : Int) < (xs.length : Int) := by omega
    have l3 : (3 : Int) < (xs.length : Int) := by omega
    go_enter Tryd.func82, Tryd.ntmps82
    go_wp2_with fail
    go_quiet (fail)
    go_wp2
    go_ret
    exact ⟨rfl, Below.drewN (Below.refl _ _) _⟩

theorem most_any (w : World) : Calls Tryd.prog 51 #[] w fun e w' => e = .returned (.int .i64 131068) ∧ w = w' := by
  go_enter Tryd.func51, Tryd.ntmps51
  go_wp2
  go_ret
  exact ⟨rfl, rfl⟩

theorem bucket_neg (n : Int) (hn : n < 0) (w : World) : Calls Tryd.prog 49 #[.int .i64 n] w fun e w' => e = .returned (.int .i64 0) ∧ w = w' := by
  go_enter Tryd.func49, Tryd.ntmps49
  go_wp2
  go_ret
  exact ⟨rfl, rfl⟩
/-- The loop of Bucket: doubled till it is enough. -/
def DblAt (m R b : Nat) : Prop := ∃ f, b * 2 ^ f = 131072 ∧ Sea.dbl f b m = R
theorem DblAt.lt {m R b : Nat} (h : DblAt m R b) (hm : m ≤ 131072) (hb : b < m) : b ≤ 65536 ∧ DblAt m R (2 * b) := by
  obtain ⟨f, h1, h2⟩ := h
  cases f with
  | zero => simp at h1; omega
  | succ f =>
    rw [Sea.dbl_step _ _ _ hb] at h2
    have h3 : 2 * b * 2 ^ f = 131072 := by rw [← h1, Nat.pow_succ, Nat.mul_comm (2 ^ f) 2, ← Nat.mul_assoc, Nat.mul_comm b 2]
    refine ⟨?_, f, h3, h2⟩
    have : 0 < 2 ^ f := Nat.two_pow_pos f
    have := Nat.le_mul_of_pos_right (2 * b) this
    omega
theorem DblAt.ge {m R b : Nat} (h : DblAt m R b) (hb : ¬ b < m) : R = b := by
  obtain ⟨f, h1, h2⟩ := h
  rw [← h2, Sea.dbl_stop _ _ _ hb]
theorem DblAt.start (n : Nat) (h : n ≤ 131068) : DblAt (n + 4) (Sea.bucket n) 64 := ⟨11, by decide, by unfold Sea.bucket; rw [if_pos h]⟩
theorem bucket_nat (n : Nat) (hn : n ≤ 9223372036854775807) (w : World) : Calls Tryd.prog 49 #[.int .i64 (n : Int)] w fun e w' => e = .returned (.int .i64 ((Sea.bucket n : Nat) : Int)) ∧ w = w' := by
  have HM := Lib.hid (fun w => most_any w)
  have h0 : ¬ (n : Int) < 0 := by omega
  by_cases h : n ≤ 131068
  · have HS := Lib.hid (DblAt.start n h)
    generalize Sea.bucket n = R at HS ⊢
    have h1 : (n : Int) ≤ 131068 := by omega
    go_enter Tryd.func49, Tryd.ntmps49
    go_wp2_with (go_at_call 51; refine (HM.out _).mono ?_; rintro e w' ⟨rfl, rfl⟩)
    go_loop [3] (fun s3 => ∃ b : Nat, s3 = .int .i64 b ∧ b ≤ 131072 ∧ 1 ≤ b ∧ Hid (DblAt (n + 4) R b)) (fun s3 => (131072 - intOf s3).toNat)
    case atStart => exact ⟨64, rfl, by omega, by omega, HS⟩
    case round =>
      obtain ⟨b, rfl, hb, hb1, HD⟩ := hrel
      by_cases hlt : b < n + 4
      · have ⟨h2, h3⟩ := HD.out.lt (by omega) hlt
        have HN := Lib.hid h3
        have hi : (b : Int) < (n : Int) + 4 := by omega
        clear h3 hlt
        go_wp2
        go_round
        case rel => exact ⟨2 * b, by first | go_num | (congr 1; omega), by omega, by omega, HN⟩
        case measure => simp [intOf]; omega
      · have h2 := HD.out.ge hlt
        have HR := Lib.hid h2
        clear h2
        have hi : (n : Int) + 4 ≤ (b : Int) := by omega
        clear hlt
        go_wp2
        go_ret
        exact ⟨by rw [HR.out]; rfl, rfl⟩
  · rw [Sea.bucket_none n (by omega)]
    have h1 : (131068 : Int) < (n : Int) := by omega
    clear h
    go_enter Tryd.func49, Tryd.ntmps49
    go_wp2_with (go_at_call 51; refine (HM.out _).mono ?_; rintro e w' ⟨rfl, rfl⟩)
    go_ret
    exact ⟨rfl, rfl⟩
end Go.Proofs.YtnoilogepkelaaaDoor
namespace Go.Proofs.YtnoilogepkelaaaDoor
set_option linter.unusedVariables false
set_option linter.unusedSimpArgs false
open Go Go.RowKit

set_option maxRecDepth 100000 in
set_option maxHeartbeats 1000000 in
theorem number_any (n k : Nat) (hn : n < 18446744073709551616) (hk : k ≤ 8) (w : World) : Calls Tryd.prog 79 #[.int .u64 (n : Int), .int .i64 (k : Int)] w (RetB w (Num.num n k)) := by
  have HT := Lib.hid (fun i (h : i < k) => Num.num_take n k i h)
  have HL := Lib.hid (Num.num_length n k)
  have HA := Lib.hid (show (Num.num n k).take k = Num.num n k from List.take_of_length_le (by rw [Num.num_length]; omega))
  have HZ := Lib.hid (show ∀ i, ((Num.num n k).take i).length ≤ 8 from fun i => by rw [List.length_take, Num.num_length]; omega)
  generalize Num.num n k = N at *
  go_enter Tryd.func79, Tryd.ntmps79
  go_wp2
  go_loopw [4, 5] (fun s4 s5 wr => ∃ i : Nat, i ≤ k ∧ s5 = .int .i64 ((k : Int) - 1 - i) ∧ Hid (OwnB 5 w.heap.size wr s4 (N.take i)) ∧ Hid (Below w.heap.size w wr)) (fun _ s5 _ => (intOf s5 + 1).toNat)
  case atStart => exact ⟨0, by omega, by simp, OwnB.nil _ _ _, Below.refl _ _⟩
  case round =>
    obtain ⟨i, hi, rfl, HO, HB⟩ := hrel
    have hsz := HB.out.size
    by_cases hlt : i < k
    · obtain ⟨j, hj⟩ : ∃ j : Nat, k - 1 - i = j := ⟨_, rfl⟩
      have e : ((k : Int) - 1 - i) = (j : Int) := by omega
      rw [e]
      have HTI := Lib.hid (HT.out i hlt)
      rw [hj] at HTI
      have hj7 : j ≤ 7 := by omega
      clear hj
      have HE := Lib.hid e
      clear e
      have HV := Lib.hid (show (n : Int) / 2 ^ (8 * j) % 256 = bv (BitVec.ofNat 8 (n / 2 ^ (8 * j))) by rw [bv_ofNat]; simp)
      go_wp2_with (at_builtin; refine wpList_append_b rfl (.tmp 12) (.tmp 18) 22 5 rfl Tryd.underlying22 info_u8 w.heap.size _ _ (HO.out.alloc _) rfl _ [BitVec.ofNat 8 (n / 2 ^ (8 * j))] (one_byte _ _ _ HV.out) rfl (by have := HZ.out i; simp only [List.length_singleton]; omega) (by simp; omega) ?_; intro v3 w3 ho hg hn'; rw [← HTI.out] at ho; have HO3 := Lib.hid ho; have HB3 := Lib.hid ((HB.out.alloc hsz _).grown hg (by simp; omega) (fun k e => (World.ownsRow.lt HO.out k e).1)); clear ho hg hn')
      have he := HE.out
      exact ⟨⟨i + 1, by omega, by congr 1; omega, HO3, HB3⟩, by simp [intOf] <;> omega⟩
    · obtain rfl : i = k := by omega
      rw [HA.out] at HO
      rw [show ((i : Int) - 1 - i) = -1 by omega]
      go_wp2
      go_ret
      exact ⟨_, rfl, HO.out, HB.out⟩

/-- Parts that lie in a new block, one behind the other. -/
theorem laid_any (v : Value) (vs : List Value) (xss : List (List (BitVec 8))) (w : World) (hv : SlL w v vs) (hl : vs.length = xss.length) (hs : ∀ j, j < vs.length → SlB w (vs.getD j undef) (xss.getD j [])) (hm : xss.length ≤ 20) (ht : total xss ≤ 100000000) :
    Calls Tryd.prog 78 #[v] w (RetB w xss.flatten) := by
  have HC := Lib.hid (concat_any v vs xss w hv hl hs (by omega) (by omega))
  obtain ⟨a, cap, hv'⟩ : ∃ a cap, v = .slice a vs.length cap := by
    rcases hv with ⟨rfl, rfl⟩ | ⟨b, off, cap, rfl, _⟩
    · exact ⟨none, 0, rfl⟩
    · exact ⟨_, cap, rfl⟩
  subst hv'
  clear hv hl hs hm ht
  generalize xss.flatten = R at HC ⊢
  go_enter Tryd.func78, Tryd.ntmps78
  go_wp2_with (go_at_call 63; (with_reducible refine Calls.mono HC.out ?_); rintro e w1 ⟨v1, rfl, ho, hb⟩; have HO := Lib.hid ho; have HB := Lib.hid hb; clear ho hb)
  go_ret
  exact ⟨_, rfl, HO.out, HB.out⟩
end Go.Proofs.YtnoilogepkelaaaDoor
namespace Go.Proofs.YtnoilogepkelaaaDoor
set_option linter.unusedVariables false
set_option linter.unusedSimpArgs false
open Go Go.RowKit

theorem strB_enc : (.string { data := #[101, 110, 99, 114, 121, 112, 116] } : Value) = .string (strB Sea.encName) := by kernel_rfl
theorem strB_tag : (.string { data := #[116, 97, 103] } : Value) = .string (strB Sea.tagName) := by kernel_rfl
/-- Parts in a new block, one behind the other. -/
theorem laid2 (w : World) (b : Nat) (v1 v2 : Value) (x1 x2 : List (BitVec 8)) (t : TypeId) (fr : Nat × Nat) (h : w.heap[b]? = some (.cells #[v1, v2] t fr)) (h1 : SlB w v1 x1) (h2 : SlB w v2 x2) (hl : x1.length + x2.length ≤ 100000000) :
    Calls Tryd.prog 78 #[.slice (some ⟨b, 0, none⟩) 2 2] w (RetB w (x1 ++ x2)) := by
  have := laid_any _ [v1, v2] [x1, x2] w (SlL.block [v1, v2] h 2 rfl (by simp)) rfl (fun j hj => ?_) (by simp) (by simp [total]; omega)
  · simpa using this
  · match j, hj with
    | 0, _ => exact h1
    | 1, _ => exact h2
theorem laid3 (w : World) (b : Nat) (v1 v2 v3 : Value) (x1 x2 x3 : List (BitVec 8)) (t : TypeId) (fr : Nat × Nat) (h : w.heap[b]? = some (.cells #[v1, v2, v3] t fr)) (h1 : SlB w v1 x1) (h2 : SlB w v2 x2) (h3 : SlB w v3 x3) (hl : x1.length + x2.length + x3.length ≤ 100000000) :
    Calls Tryd.prog 78 #[.slice (some ⟨b, 0, none⟩) 3 3] w (RetB w (x1 ++ x2 ++ x3)) := by
  have := laid_any _ [v1, v2, v3] [x1, x2, x3] w (SlL.block [v1, v2, v3] h 3 rfl (by simp)) rfl (fun j hj => ?_) (by simp) (by simp [total]; omega)
  · simpa using this
  · match j, hj with
    | 0, _ => exact h1
    | 1, _ => exact h2
    | 2, _ => exact h3
theorem laid5 (w : World) (b : Nat) (v1 v2 v3 v4 v5 : Value) (x1 x2 x3 x4 x5 : List (BitVec 8)) (t : TypeId) (fr : Nat × Nat) (h : w.heap[b]? = some (.cells #[v1, v2, v3, v4, v5] t fr)) (h1 : SlB w v1 x1) (h2 : SlB w v2 x2) (h3 : SlB w v3 x3) (h4 : SlB w v4 x4) (h5 : SlB w v5 x5)
    (hl : x1.length + x2.length + x3.length + x4.length + x5.length ≤ 100000000) :
    Calls Tryd.prog 78 #[.slice (some ⟨b, 0, none⟩) 5 5] w (RetB w (x1 ++ x2 ++ x3 ++ x4 ++ x5)) := by
  have := laid_any _ [v1, v2, v3, v4, v5] [x1, x2, x3, x4, x5] w (SlL.block [v1, v2, v3, v4, v5] h 5 rfl (by simp)) rfl (fun j hj => ?_) (by simp) (by simp [total]; omega)
  · simpa using this
  · match j, hj with
    | 0, _ => exact h1
    | 1, _ => exact h2
    | 2, _ => exact h3
    | 3, _ => exact h4
    | 4, _ => exact h5

set_option maxRecDepth 100000 in
set_option maxHeartbeats 4000000 in
theorem sstream_any (key ctx : List (BitVec 8)) (hk : key.length = 32) (hcl : ctx.length ≤ 1000000) (vc : Value) (pos epoch : Nat) (hp : pos < 18446744073709551616) (he : epoch < 4294967296) (b : List (BitVec 8)) (v : Value) (w : World) (hs : SlB w v b) (hcs : SlB w vc ctx) (hl : b.length ≤ 10000000) (hG : Glob w) :
    Calls Tryd.prog 80 #[.agg (bytes key), .agg #[vc, .int .u64 (pos : Int), .int .u32 (epoch : Int)], v] w (RetB w (Sea.stream key ctx pos epoch b)) := by
  have hgz := hG.size
  obtain ⟨ac, capc, rfl⟩ := hcs.len
  obtain ⟨ab, capb, rfl⟩ := hs.len
  have HN4 := Lib.hid (show ∀ W, Calls Tryd.prog 79 #[.int .u64 (epoch : Int), .int .i64 4] W (RetB W (Num.num epoch 4)) from fun W => number_any epoch 4 (by omega) (by omega) W)
  have HN8 := Lib.hid (show ∀ W, Calls Tryd.prog 79 #[.int .u64 (pos : Int), .int .i64 8] W (RetB W (Num.num pos 8)) from fun W => number_any pos 8 hp (by omega) W)
  have HLD := Lib.hid (fun W b v1 v2 t fr h h1 h2 => laid2 W b v1 v2 (Num.num epoch 4) (Num.num pos 8) t fr h h1 h2 (by simp [Num.num_length]))
  rw [show Num.num epoch 4 ++ Num.num pos 8 = Sea.nonce epoch pos from rfl] at HLD
  have HDR := Lib.hid (fun W g E fr u hg (h : SlB W u ctx) (hB : Below w.heap.size w W) => derive1g key Sea.encName ctx hk (by simp [Sea.encName]) u W g E fr hg h hcl (hG.below hB hgz))
  rw [← strB_enc] at HDR
  have HST := Lib.hid (fun W u (h : SlB W u b) => stream_good (Hma.derive_ key Sea.encName [ctx]) (Sea.nonce epoch pos) b 1 u W h (Hma.derive_length _ _ _) (Sea.nonce_length _ _) (by omega) (by simp only [Cha.fits, Bool.or_eq_true, decide_eq_true_eq]; right; show 1 + _ < _; omega))
  rw [show Cha.stream (Hma.derive_ key Sea.encName [ctx]) 1 (Sea.nonce epoch pos) b = Sea.stream key ctx pos epoch b from rfl] at HST
  rw [show wv (1 : BitVec 32) = 1 from rfl] at HST
  have HNL := Lib.hid (Sea.nonce_length epoch pos)
  have HNT := Lib.hid (show (Sea.nonce epoch pos).take (List.replicate 12 (0 : BitVec 8)).length ++ (List.replicate 12 (0 : BitVec 8)).drop (Sea.nonce epoch pos).length = Sea.nonce epoch pos by
    rw [List.take_of_length_le (by rw [Sea.nonce_length]; simp), List.drop_of_length_le (by rw [Sea.nonce_length]; simp), List.append_nil])
  have HIK := Lib.hid (show (Tryd.prog.info? 32).map (·.size) = some (bytes key).toList.length by rw [Array.length_toList, bytes_size, hk]; kernel_rfl)
  have HIN := Lib.hid (show (Tryd.prog.info? 119).map (·.size) = some (bytes (Sea.nonce epoch pos)).toList.length by rw [Array.length_toList, bytes_size, Sea.nonce_length]; kernel_rfl)
  obtain ⟨R, hR⟩ : ∃ R, Sea.stream key ctx pos epoch b = R := ⟨_, rfl⟩
  rw [hR] at HST ⊢
  obtain ⟨NC, hNC⟩ : ∃ NC, Sea.nonce epoch pos = NC := ⟨_, rfl⟩
  rw [hNC] at HST HNL HNT HIN HLD
  obtain ⟨D, hD⟩ : ∃ D, bytes (Hma.derive_ key Sea.encName [ctx]) = D := ⟨_, rfl⟩
  rw [hD] at HST
  simp only [hD] at HDR
  obtain ⟨kb, hkb⟩ : ∃ kb, bytes key = kb := ⟨_, rfl⟩
  rw [hkb] at HIK HDR ⊢
  obtain ⟨n4, hn4⟩ : ∃ n4, Num.num epoch 4 = n4 := ⟨_, rfl⟩
  obtain ⟨n8, hn8⟩ : ∃ n8, Num.num pos 8 = n8 := ⟨_, rfl⟩
  have HL4 := Lib.hid (show n4.length = 4 by rw [← hn4]; exact Num.num_length _ _)
  have HL8 := Lib.hid (show n8.length = 8 by rw [← hn8]; exact Num.num_length _ _)
  rw [hn4] at HN4 HLD
  rw [hn8] at HN8 HLD
  have HC := Lib.hid hcs
  have HS := Lib.hid hs
  clear hk hcl hs hcs hl hG hR hNC hD hkb hn4 hn8
  go_enter Tryd.func80, Tryd.ntmps80
  go_upto_region 2 with fail
  obtain ⟨X, hX, hBX, hXs, hX0, hX1, hX2⟩ := alloc3 w (.cells kb 32) (.cells #[.slice ac ctx.length capc, .int .u64 (pos : Int), .int .u32 (epoch : Int)] 70) (.cells (bytes (List.replicate 12 0)) 119)
  rw [show ((w.alloc (.cells kb 32)).alloc (.cells #[.slice ac ctx.length capc, .int .u64 (pos : Int), .int .u32 (epoch : Int)] 70)).alloc (.cells #[.int .u8 0, .int .u8 0, .int .u8 0, .int .u8 0, .int .u8 0, .int .u8 0, .int .u8 0, .int .u8 0, .int .u8 0, .int .u8 0, .int .u8 0, .int .u8 0] 119) = X from hX]
  have HBX := Lib.hid hBX
  have HX0 := Lib.hid hX0
  have HX1 := Lib.hid hX1
  have HX2 := Lib.hid hX2
  have HXS := Lib.hid hXs
  have HP1 := Lib.hid (fun W (hW : Below (w.heap.size + 2) X W) => (show W.cell? ⟨w.heap.size + 1, 1, none⟩ = some (.int .u64 (pos : Int)) from cell_of_row W (w.heap.size + 1) 1 _ _ _ ((hW.block _ (by omega)).trans hX1)))
  have HP2 := Lib.hid (fun W (hW : Below (w.heap.size + 2) X W) => (show W.cell? ⟨w.heap.size + 1, 2, none⟩ = some (.int .u32 (epoch : Int)) from cell_of_row W (w.heap.size + 1) 2 _ _ _ ((hW.block _ (by omega)).trans hX1)))
  have HX2' := Lib.hid (fun W (hW : Below X.heap.size X W) => (hW.block (w.heap.size + 2) (by omega)).trans hX2)
  have HK2 := Lib.hid (fun W (hW : Below X.heap.size X W) => (hW.mono (by omega) : Below (w.heap.size + 2) X W))
  have HZX := Lib.hid (show w.heap.size + 2 ≤ X.heap.size by omega)
  clear hX hBX hX0 hX1 hX2 hXs
  go_cut [] (fun wx => Hid (wx.heap[w.heap.size + 2]? = some (.cells (bytes NC) 119 (0, 0))) ∧ Hid (Kept [w.heap.size + 2] X wx))
  case first =>
    have hwr : IntKind.u64.wrap (epoch : Int) = (epoch : Int) := by rw [wrap_u64_mod]; omega
    -- REG A BEGIN
    refine wp_region_held_drew (S := fun W => Below (w.heap.size + 2) X W) (by kernel_rfl) ((Below.refl (w.heap.size + 2) X).drew) (fun hHeld => ?_)
    refine wpAnyH_take (i := 0) (v := ?v1) rfl (by kernel_rfl) (by kernel_rfl) (by kernel_rfl) (fun _ _ _ h => h) (Or.inl ⟨by rfl, ?y1⟩) (by assumption) ?r1
    case y1 =>
      intro w' hSw
      go_split_ands
      go_simp
      try with_reducible rfl
    try simp only [List.getElem_toArray, List.getElem_cons_zero, List.getElem_cons_succ, Act.put, List.setIfInBounds_toArray, List.set_cons_zero, List.set_cons_succ]
    refine wpAnyH_take (i := 1) (v := ?v2) rfl (by kernel_rfl) (by kernel_rfl) (by kernel_rfl) (fun _ _ _ h => h) (Or.inl ⟨by rfl, ?y2⟩) (by assumption) ?r2
    case y2 =>
      intro w' hSw
      go_split_ands
      go_simp
      try with_reducible rfl
    try simp only [List.getElem_toArray, List.getElem_cons_zero, List.getElem_cons_succ, Act.put, List.setIfInBounds_toArray, List.set_cons_zero, List.set_cons_succ]
    refine wpAnyH_take (i := 2) (v := ?v3) rfl (by kernel_rfl) (by kernel_rfl) (by kernel_rfl) (fun _ _ _ h => h) (Or.inl ⟨by rfl, ?y3⟩) (by assumption) ?r3
    case y3 =>
      intro w' hSw
      have c := HP2.out w' hSw
      go_split_ands
      go_simp
      try with_reducible rfl
    try simp only [List.getElem_toArray, List.getElem_cons_zero, List.getElem_cons_succ, Act.put, List.setIfInBounds_toArray, List.set_cons_zero, List.set_cons_succ]
    refine wpAnyH_take (i := 3) (v := ?v4) rfl (by kernel_rfl) (by kernel_rfl) (by kernel_rfl) (fun _ _ _ h => h) (Or.inl ⟨by rfl, ?y4⟩) (by assumption) ?r4
    case y4 =>
      intro w' hSw
      go_split_ands
      go_simp
      try with_reducible rfl
    try simp only [List.getElem_toArray, List.getElem_cons_zero, List.getElem_cons_succ, Act.put, List.setIfInBounds_toArray, List.set_cons_zero, List.set_cons_succ]
    refine wpAnyH_take (i := 5) (v := ?v5) rfl (by kernel_rfl) (by kernel_rfl) (by kernel_rfl) (fun _ _ _ h => h) (Or.inl ⟨by rfl, ?y5⟩) (by assumption) ?r5
    case y5 =>
      intro w' hSw
      go_split_ands
      go_simp
      try with_reducible rfl
    try simp only [List.getElem_toArray, List.getElem_cons_zero, List.getElem_cons_succ, Act.put, List.setIfInBounds_toArray, List.set_cons_zero, List.set_cons_succ]
    refine wpAnyH_take (i := 6) (v := ?v6) rfl (by kernel_rfl) (by kernel_rfl) (by kernel_rfl) (fun _ _ _ h => h) (Or.inl ⟨by rfl, ?y6⟩) (by assumption) ?r6
    case y6 =>
      intro w' hSw
      have c := HP1.out w' hSw
      go_split_ands
      go_simp
      try with_reducible rfl
    try simp only [List.getElem_toArray, List.getElem_cons_zero, List.getElem_cons_succ, Act.put, List.setIfInBounds_toArray, List.set_cons_zero, List.set_cons_succ]
    refine wpAnyH_ready (rs := [4]) (by kernel_rfl) (by simp) ?_
    refine AllReadyH.cons (i := 4) rfl (fun K hK => ?_) AllReadyH.nil
    go_simp
    go_at_call 79
    (with_reducible refine Calls.mono (HN4.out _) ?_)
    rintro e w_1 ⟨v_3, rfl, ho, hb⟩
    obtain ⟨a_4, c_5, rfl⟩ := ho.sl.len
    have HB_2 := Lib.hid (((Below.refl X.heap.size X).drew).trans (hb.mono ((Below.refl X.heap.size X).drew).size))
    have K_6 := Lib.hid ho.sl
    clear hb ho
    refine hK.out _ _ (HK2.out _ (HB_2.out)) (fun hHeld' => ?_)
    clear hHeld hK K
    have hHeld := hHeld'
    clear hHeld'
    try simp only [List.getElem_toArray, List.getElem_cons_zero, List.getElem_cons_succ, Act.put, List.setIfInBounds_toArray, List.set_cons_zero, List.set_cons_succ]
    refine wpAnyH_ready (rs := [7]) (by kernel_rfl) (by simp) ?_
    refine AllReadyH.cons (i := 7) rfl (fun K hK => ?_) AllReadyH.nil
    go_simp
    go_at_call 79
    (with_reducible refine Calls.mono (HN8.out _) ?_)
    rintro e w_7 ⟨v_9, rfl, ho, hb⟩
    obtain ⟨a_10, c_11, rfl⟩ := ho.sl.len
    have HB_8 := Lib.hid ((HB_2.out).trans (hb.mono (HB_2.out).size))
    have K_12 := Lib.hid (K_6.out.below (hb) (Nat.le_refl _))
    have K_13 := Lib.hid ho.sl
    clear hb ho
    refine hK.out _ _ (HK2.out _ (HB_8.out)) (fun hHeld' => ?_)
    clear hHeld hK K
    have hHeld := hHeld'
    clear hHeld'
    try simp only [List.getElem_toArray, List.getElem_cons_zero, List.getElem_cons_succ, Act.put, List.setIfInBounds_toArray, List.set_cons_zero, List.set_cons_succ]
    refine wpAnyH_ready (rs := [8]) (by kernel_rfl) (by simp) ?_
    refine AllReadyH.cons (i := 8) rfl (fun K hK => ?_) AllReadyH.nil
    obtain ⟨w_14, hw_14⟩ : ∃ W, (w_7.alloc (.cells #[.slice a_4 n4.length c_5, .slice a_10 n8.length c_11] 22)) = W := ⟨_, rfl⟩
    go_simp
    try rw [hw_14]
    have hb : Below w_7.heap.size w_7 w_14 := by rw [← hw_14]; exact Below.alloc (Below.refl _ _) (Nat.le_refl _) _
    have K_17 := Lib.hid (K_12.out.below (hb) (Nat.le_refl _))
    have K_18 := Lib.hid (K_13.out.below (hb) (Nat.le_refl _))
    have H_15 := Lib.hid (show w_14.heap[w_7.heap.size]? = some (.cells #[.slice a_4 n4.length c_5, .slice a_10 n8.length c_11] 22) by rw [← hw_14]; exact heap_alloc_new w_7 _)
    have HB_16 := Lib.hid ((HB_8.out).trans (hb.mono (HB_8.out).size))
    clear hw_14 hb
    refine hK.out _ _ (HK2.out _ (HB_16.out)) (fun hHeld' => ?_)
    clear hHeld hK K
    have hHeld := hHeld'
    clear hHeld'
    try simp only [List.getElem_toArray, List.getElem_cons_zero, List.getElem_cons_succ, Act.put, List.setIfInBounds_toArray, List.set_cons_zero, List.set_cons_succ]
    refine wpAnyH_ready (rs := [9]) (by kernel_rfl) (by simp) ?_
    refine AllReadyH.cons (i := 9) rfl (fun K hK => ?_) AllReadyH.nil
    go_simp
    go_at_call 78
    (with_reducible refine Calls.mono (HLD.out _ _ _ _ _ _ H_15.out K_17.out K_18.out) ?_)
    rintro e w_19 ⟨v_21, rfl, ho, hb⟩
    obtain ⟨a_22, c_23, rfl⟩ := ho.sl.len
    have HB_20 := Lib.hid ((HB_16.out).trans (hb.mono (HB_16.out).size))
    have K_24 := Lib.hid (K_17.out.below (hb) (Nat.le_refl _))
    have K_25 := Lib.hid (K_18.out.below (hb) (Nat.le_refl _))
    have H_26 := Lib.hid (((hb).block _ (Array.getElem?_eq_some_iff.1 H_15.out).1).trans H_15.out)
    have K_27 := Lib.hid ho.sl
    clear hb ho
    refine hK.out _ _ (HK2.out _ (HB_20.out)) (fun hHeld' => ?_)
    clear hHeld hK K
    have hHeld := hHeld'
    clear hHeld'
    try simp only [List.getElem_toArray, List.getElem_cons_zero, List.getElem_cons_succ, Act.put, List.setIfInBounds_toArray, List.set_cons_zero, List.set_cons_succ]
    refine wpAnyH_ready (rs := [10]) (by kernel_rfl) (by simp) ?_
    refine AllReadyH.cons (i := 10) rfl (fun K hK => ?_) AllReadyH.nil
    refine any_of_list (by rfl) (fun Q' hQ' => ?_)
    try simp only [List.getElem_toArray, List.getElem_cons_zero, List.getElem_cons_succ]
    refine wpList_copy_arr rfl (.tmp 10) (.tmp 19) 22 5 rfl Tryd.underlying22 (by kernel_rfl) (w.heap.size + 2) 12 12 _ _ rfl rfl K_27.out (List.replicate 12 0) 119 (HX2'.out _ (HB_20.out)) rfl ?_
    rw [HNT.out]
    have HEND := Lib.hid (And.intro (setRow_heap _ (w.heap.size + 2) _ (bytes NC) _ _ (HX2'.out _ (HB_20.out))) ((Kept.ofBelow (l := [w.heap.size + 2]) (HB_20.out) (Nat.le_refl _)).setRow (b := w.heap.size + 2) (by simp) (bytes NC)))
    refine hQ' _ _ (hK.out _ _ (HEND.out.2.toBelow (by simp) HZX.out) (fun hHeld' => ?_))
    clear hHeld hK K hQ' Q'
    have hHeld := hHeld'
    clear hHeld'
    try simp only [List.getElem_toArray, List.getElem_cons_zero, List.getElem_cons_succ, Act.put, List.setIfInBounds_toArray, List.set_cons_zero, List.set_cons_succ]
    refine wpAnyH_done (by kernel_rfl) ?_ _
    go_wp2_with fail
    go_meet
    exact ⟨Lib.hid HEND.out.1, Lib.hid HEND.out.2⟩
    -- REG A END
  case rest =>
    obtain ⟨HN, HKW⟩ := hcut
    have hxs := HXS.out
    have hks := HKW.out.size
    have HBW := Lib.hid (HBX.out.trans (HKW.out.toBelow (B := w.heap.size) (by simp) (by omega)))
    have HCW := Lib.hid (HC.out.below HBW.out (Nat.le_refl _))
    have HSW := Lib.hid (HS.out.below HBW.out (Nat.le_refl _))
    have h0 := (HKW.out.block w.heap.size (by omega) (by simp)).trans HX0.out
    have h1 := (HKW.out.block (w.heap.size + 1) (by omega) (by simp)).trans HX1.out
    have HRK := Lib.hid (fun W (hW : Below wc.heap.size wc W) => rng_bel h0 hW)
    have HRN := Lib.hid (fun W (hW : Below wc.heap.size wc W) => rng_bel HN.out hW)
    have HP0 := Lib.hid (fun W (hW : Below wc.heap.size wc W) => (show W.cell? ⟨w.heap.size + 1, 0, none⟩ = some (.slice ac ctx.length capc) from cell_of_row W (w.heap.size + 1) 0 _ _ _ ((hW.block _ (by omega)).trans h1)))
    clear h0 h1 hxs hks HX0 HX1 HX2 HX2' HP1 HP2 HN HKW HBX HXS HLD HN4 HN8 HL4 HL8 HNT
    go_upto_region 3 with fail
    -- REG B BEGIN
    refine wp_region_held_drew (S := fun W => Below wc.heap.size wc W) (by kernel_rfl) ((Below.refl wc.heap.size wc).drew) (fun hHeld => ?_)
    refine wpAnyH_take (i := 0) rfl (by kernel_rfl) (by kernel_rfl) (by kernel_rfl) (fun _ _ _ h => h) (yieldsIf_load_mid (by rfl) 32 (.tmp 3) rfl _ _ rfl (kb.toList) _ (fun _ h => HRK.out _ h) Tryd.underlying32 rfl (HIK.out)) (by assumption) ?_
    try simp only [List.getElem_toArray, List.getElem_cons_zero, List.getElem_cons_succ, Act.put, List.setIfInBounds_toArray, List.set_cons_zero, List.set_cons_succ]
    refine wpAnyH_take (i := 1) (v := ?v7) rfl (by kernel_rfl) (by kernel_rfl) (by kernel_rfl) (fun _ _ _ h => h) (Or.inl ⟨by rfl, ?y7⟩) (by assumption) ?r7
    case y7 =>
      intro w' hSw
      go_split_ands
      go_simp
      try with_reducible rfl
    try simp only [List.getElem_toArray, List.getElem_cons_zero, List.getElem_cons_succ, Act.put, List.setIfInBounds_toArray, List.set_cons_zero, List.set_cons_succ]
    refine wpAnyH_take (i := 2) (v := ?v8) rfl (by kernel_rfl) (by kernel_rfl) (by kernel_rfl) (fun _ _ _ h => h) (Or.inl ⟨by rfl, ?y8⟩) (by assumption) ?r8
    case y8 =>
      intro w' hSw
      have c := HP0.out w' hSw
      go_split_ands
      go_simp
      try with_reducible rfl
    try simp only [List.getElem_toArray, List.getElem_cons_zero, List.getElem_cons_succ, Act.put, List.setIfInBounds_toArray, List.set_cons_zero, List.set_cons_succ]
    refine wpAnyH_take (i := 5) rfl (by kernel_rfl) (by kernel_rfl) (by kernel_rfl) (fun _ _ _ h => h) (yieldsIf_load_mid (by rfl) 119 (.tmp 7) rfl _ _ rfl ((bytes NC).toList) _ (fun _ h => HRN.out _ h) Tryd.underlying119 rfl (HIN.out)) (by assumption) ?_
    try simp only [List.getElem_toArray, List.getElem_cons_zero, List.getElem_cons_succ, Act.put, List.setIfInBounds_toArray, List.set_cons_zero, List.set_cons_succ]
    refine wpAnyH_take (i := 6) (v := ?v9) rfl (by kernel_rfl) (by kernel_rfl) (by kernel_rfl) (fun _ _ _ h => h) (Or.inl ⟨by rfl, ?y9⟩) (by assumption) ?r9
    case y9 =>
      intro w' hSw
      go_split_ands
      go_simp
      try with_reducible rfl
    try simp only [List.getElem_toArray, List.getElem_cons_zero, List.getElem_cons_succ, Act.put, List.setIfInBounds_toArray, List.set_cons_zero, List.set_cons_succ]
    refine wpAnyH_ready (rs := [3]) (by kernel_rfl) (by simp) ?_
    refine AllReadyH.cons (i := 3) rfl (fun K hK => ?_) AllReadyH.nil
    obtain ⟨w_28, hw_28⟩ : ∃ W, (wc.alloc (.cells #[.slice ac ctx.length capc] 22)).drew = W := ⟨_, rfl⟩
    go_simp
    try rw [hw_28]
    have hb : Below wc.heap.size wc w_28 := by rw [← hw_28]; exact (Below.alloc (Below.refl _ _) (Nat.le_refl _) _).drew
    have K_31 := Lib.hid (HCW.out.below (hb) (Nat.le_refl _))
    have K_32 := Lib.hid (HSW.out.below (hb) (Nat.le_refl _))
    have H_29 := Lib.hid (show w_28.heap[wc.heap.size]? = some (.cells #[.slice ac ctx.length capc] 22) by rw [← hw_28]; exact heap_alloc_new wc _)
    have HB_30 := Lib.hid (((Below.refl wc.heap.size wc)).trans (hb.mono ((Below.refl wc.heap.size wc)).size))
    clear hw_28 hb
    refine hK.out _ _ (HB_30.out) (fun hHeld' => ?_)
    clear hHeld hK K
    have hHeld := hHeld'
    clear hHeld'
    try simp only [List.getElem_toArray, List.getElem_cons_zero, List.getElem_cons_succ, Act.put, List.setIfInBounds_toArray, List.set_cons_zero, List.set_cons_succ]
    refine wpAnyH_ready (rs := [4]) (by kernel_rfl) (by simp) ?_
    refine AllReadyH.cons (i := 4) rfl (fun K hK => ?_) AllReadyH.nil
    go_simp
    go_at_call 45
    (with_reducible refine Calls.mono (HDR.out _ _ _ _ _ H_29.out K_31.out (HBW.out.trans ((HB_30.out).mono HBW.out.size))) ?_)
    rintro e w_33 ⟨rfl, hb⟩
    have HB_34 := Lib.hid ((HB_30.out).trans (hb.mono (HB_30.out).size))
    have K_35 := Lib.hid (K_31.out.below (hb) (Nat.le_refl _))
    have K_36 := Lib.hid (K_32.out.below (hb) (Nat.le_refl _))
    have H_37 := Lib.hid (((hb).block _ (Array.getElem?_eq_some_iff.1 H_29.out).1).trans H_29.out)
    clear hb
    refine hK.out _ _ (HB_34.out) (fun hHeld' => ?_)
    clear hHeld hK K
    have hHeld := hHeld'
    clear hHeld'
    try simp only [List.getElem_toArray, List.getElem_cons_zero, List.getElem_cons_succ, Act.put, List.setIfInBounds_toArray, List.set_cons_zero, List.set_cons_succ]
    refine wpAnyH_ready (rs := [7]) (by kernel_rfl) (by simp) ?_
    refine AllReadyH.cons (i := 7) rfl (fun K hK => ?_) AllReadyH.nil
    go_simp
    go_at_call 94
    (with_reducible refine Calls.mono (HST.out _ _ K_36.out) ?_)
    rintro e w_38 ⟨v_40, rfl, ho, hb⟩
    obtain ⟨a_41, c_42, rfl⟩ := ho.sl.len
    have HB_39 := Lib.hid ((HB_34.out).trans (hb.mono (HB_34.out).size))
    have K_43 := Lib.hid (K_35.out.below (hb) (Nat.le_refl _))
    have K_44 := Lib.hid (K_36.out.below (hb) (Nat.le_refl _))
    have H_45 := Lib.hid (((hb).block _ (Array.getElem?_eq_some_iff.1 H_37.out).1).trans H_37.out)
    have HOF := Lib.hid (ho.mono (HBW.out.trans ((HB_34.out).mono HBW.out.size)).size)
    clear hb ho
    refine hK.out _ _ (HB_39.out) (fun hHeld' => ?_)
    clear hHeld hK K
    have hHeld := hHeld'
    clear hHeld'
    try simp only [List.getElem_toArray, List.getElem_cons_zero, List.getElem_cons_succ, Act.put, List.setIfInBounds_toArray, List.set_cons_zero, List.set_cons_succ]
    refine wpAnyH_take (i := 8) (v := ?v10) rfl (by kernel_rfl) (by kernel_rfl) (by kernel_rfl) (fun _ _ _ h => h) (Or.inl ⟨by rfl, ?y10⟩) (by assumption) ?r10
    case y10 =>
      intro w' hSw
      go_split_ands
      go_simp
      try with_reducible rfl
    try simp only [List.getElem_toArray, List.getElem_cons_zero, List.getElem_cons_succ, Act.put, List.setIfInBounds_toArray, List.set_cons_zero, List.set_cons_succ]
    refine wpAnyH_take (i := 9) (v := ?v11) rfl (by kernel_rfl) (by kernel_rfl) (by kernel_rfl) (fun _ _ _ h => h) (Or.inl ⟨by rfl, ?y11⟩) (by assumption) ?r11
    case y11 =>
      intro w' hSw
      go_split_ands
      go_simp
      try with_reducible rfl
    try simp only [List.getElem_toArray, List.getElem_cons_zero, List.getElem_cons_succ, Act.put, List.setIfInBounds_toArray, List.set_cons_zero, List.set_cons_succ]
    refine wpAnyH_take (i := 10) (v := ?v12) rfl (by kernel_rfl) (by kernel_rfl) (by kernel_rfl) (fun _ _ _ h => h) (Or.inl ⟨by rfl, ?y12⟩) (by assumption) ?r12
    case y12 =>
      intro w' hSw
      go_split_ands
      go_simp
      try with_reducible rfl
    try simp only [List.getElem_toArray, List.getElem_cons_zero, List.getElem_cons_succ, Act.put, List.setIfInBounds_toArray, List.set_cons_zero, List.set_cons_succ]
    refine wpAnyH_take (i := 11) (v := ?v13) rfl (by kernel_rfl) (by kernel_rfl) (by kernel_rfl) (fun _ _ _ h => h) (Or.inl ⟨by rfl, ?y13⟩) (by assumption) ?r13
    case y13 =>
      intro w' hSw
      go_split_ands
      go_simp
      try with_reducible rfl
    try simp only [List.getElem_toArray, List.getElem_cons_zero, List.getElem_cons_succ, Act.put, List.setIfInBounds_toArray, List.set_cons_zero, List.set_cons_succ]
    refine wpAnyH_take (i := 12) (v := ?v14) rfl (by kernel_rfl) (by kernel_rfl) (by kernel_rfl) (fun _ _ _ h => h) (Or.inl ⟨by rfl, ?y14⟩) (by assumption) ?r14
    case y14 =>
      intro w' hSw
      go_split_ands
      go_simp
      try with_reducible rfl
    try simp only [List.getElem_toArray, List.getElem_cons_zero, List.getElem_cons_succ, Act.put, List.setIfInBounds_toArray, List.set_cons_zero, List.set_cons_succ]
    refine wpAnyH_done (by kernel_rfl) ?_ _
    go_wp2
    go_ret
    exact ⟨_, rfl, HOF.out.below (Below.refl _ _) (Nat.le_refl _), HBW.out.trans ((HB_39.out).mono HBW.out.size)⟩
    -- REG B END
end Go.Proofs.YtnoilogepkelaaaDoor
namespace Go.Proofs.YtnoilogepkelaaaDoor
set_option linter.unusedVariables false
set_option linter.unusedSimpArgs false
open Go Go.RowKit

set_option maxRecDepth 100000 in
set_option maxHeartbeats 4000000 in
theorem stag_any (key ctx : List (BitVec 8)) (hk : key.length = 32) (hcl : ctx.length ≤ 1000000) (vc : Value) (pos epoch : Nat) (hp : pos < 18446744073709551616) (he : epoch < 4294967296) (b : List (BitVec 8)) (v : Value) (w : World) (hs : SlB w v b) (hcs : SlB w vc ctx) (hl : b.length ≤ 10000000) (hG : Glob w) :
    Calls Tryd.prog 81 #[.agg (bytes key), .agg #[vc, .int .u64 (pos : Int), .int .u32 (epoch : Int)], v] w fun e w' => e = .returned (.agg (bytes (Sea.tag_ key ctx pos epoch b))) ∧ Below w.heap.size w w' := by
  have hgz := hG.size
  obtain ⟨ac, capc, rfl⟩ := hcs.len
  obtain ⟨ab, capb, rfl⟩ := hs.len
  have HNE := Lib.hid (show ∀ W, Calls Tryd.prog 79 #[.int .u64 (epoch : Int), .int .i64 4] W (RetB W (Num.num epoch 4)) from fun W => number_any epoch 4 (by omega) (by omega) W)
  have HNC := Lib.hid (show ∀ W, Calls Tryd.prog 79 #[.int .u64 (ctx.length : Int), .int .i64 4] W (RetB W (Num.num ctx.length 4)) from fun W => number_any ctx.length 4 (by omega) (by omega) W)
  have HNP := Lib.hid (show ∀ W, Calls Tryd.prog 79 #[.int .u64 (pos : Int), .int .i64 8] W (RetB W (Num.num pos 8)) from fun W => number_any pos 8 hp (by omega) W)
  have HLD := Lib.hid (fun W g v1 v2 v3 v4 v5 t fr h h1 h2 h3 h4 h5 => laid5 W g v1 v2 v3 v4 v5 (Num.num ctx.length 4) ctx (Num.num pos 8) (Num.num epoch 4) b t fr h h1 h2 h3 h4 h5 (by simp only [Num.num_length]; omega))
  rw [show Num.num ctx.length 4 ++ ctx ++ Num.num pos 8 ++ Num.num epoch 4 ++ b = Sea.tagText ctx pos epoch b from rfl] at HLD
  have HDR := Lib.hid (fun W u (h : SlB W u ctx) (hB : Below w.heap.size w W) => derive1 key Sea.tagName ctx hk (by simp [Sea.tagName]) u W 22 h hcl (hG.below hB hgz))
  rw [← strB_tag] at HDR
  have hown : (Hma.derive_ key Sea.tagName [ctx]).length = 32 := Hma.derive_length _ _ _
  have htx : (Sea.tagText ctx pos epoch b).length ≤ 20000000 := by simp [Sea.tagText, Num.num_length]; omega
  have HMA := Lib.hid (fun v0 v1 W (h0 : SlB W v0 (Hma.derive_ key Sea.tagName [ctx])) (h1 : SlB W v1 (Sea.tagText ctx pos epoch b)) (hB : Below w.heap.size w W) => hmac_any (Hma.derive_ key Sea.tagName [ctx]) (Sea.tagText ctx pos epoch b) v0 v1 W h0 h1 (by omega) (by omega) (hG.below hB hgz))
  rw [show Hma.tag (Hma.derive_ key Sea.tagName [ctx]) (Sea.tagText ctx pos epoch b) = Sea.tag_ key ctx pos epoch b from rfl] at HMA
  have HIT := Lib.hid (show (Tryd.prog.info? 32).map (·.size) = some (bytes (Sea.tag_ key ctx pos epoch b)).size by rw [bytes_size, Sea.tag_length]; kernel_rfl)
  have HTL := Lib.hid (Sea.tag_length key ctx pos epoch b)
  have HIK := Lib.hid (show (Tryd.prog.info? 32).map (·.size) = some (bytes key).size by rw [bytes_size, hk]; kernel_rfl)
  have HIO := Lib.hid (show (Tryd.prog.info? 32).map (·.size) = some (bytes (Hma.derive_ key Sea.tagName [ctx])).size by rw [bytes_size, hown]; kernel_rfl)
  obtain ⟨T, hT⟩ : ∃ T, Sea.tag_ key ctx pos epoch b = T := ⟨_, rfl⟩
  rw [hT] at HMA HIT HTL ⊢
  obtain ⟨D, hD⟩ : ∃ D, Hma.derive_ key Sea.tagName [ctx] = D := ⟨_, rfl⟩
  rw [hD] at HMA HIO hown
  simp only [hD] at HDR
  have HOL := Lib.hid hown
  obtain ⟨kb, hkb⟩ : ∃ kb, bytes key = kb := ⟨_, rfl⟩
  rw [hkb] at HIK HDR ⊢
  obtain ⟨TT, hTT⟩ : ∃ TT, Sea.tagText ctx pos epoch b = TT := ⟨_, rfl⟩
  rw [hTT] at HMA HLD
  obtain ⟨n4, hn4⟩ : ∃ n4, Num.num epoch 4 = n4 := ⟨_, rfl⟩
  obtain ⟨n8, hn8⟩ : ∃ n8, Num.num pos 8 = n8 := ⟨_, rfl⟩
  obtain ⟨nc, hnc⟩ : ∃ nc, Num.num ctx.length 4 = nc := ⟨_, rfl⟩
  rw [hn4] at HNE HLD
  rw [hn8] at HNP HLD
  rw [hnc] at HNC HLD
  have HC := Lib.hid hcs
  have HS := Lib.hid hs
  clear hk hs hcs hl hG hT hD hkb hTT hn4 hn8 hnc hown htx
  go_enter Tryd.func81, Tryd.ntmps81
  go_upto_region 1 with fail
  obtain ⟨X, hX, hBX, hXs, hX0, hX1, hX2⟩ := alloc3 w (.cells kb 32) (.cells #[.slice ac ctx.length capc, .int .u64 (pos : Int), .int .u32 (epoch : Int)] 70) (.cells (bytes (List.replicate 32 0)) 32)
  rw [show ((w.alloc (.cells kb 32)).alloc (.cells #[.slice ac ctx.length capc, .int .u64 (pos : Int), .int .u32 (epoch : Int)] 70)).alloc (.cells #[.int .u8 0, .int .u8 0, .int .u8 0, .int .u8 0, .int .u8 0, .int .u8 0, .int .u8 0, .int .u8 0, .int .u8 0, .int .u8 0, .int .u8 0, .int .u8 0, .int .u8 0, .int .u8 0, .int .u8 0, .int .u8 0, .int .u8 0, .int .u8 0, .int .u8 0, .int .u8 0, .int .u8 0, .int .u8 0, .int .u8 0, .int .u8 0, .int .u8 0, .int .u8 0, .int .u8 0, .int .u8 0, .int .u8 0, .int .u8 0, .int .u8 0, .int .u8 0] 32) = X from hX]
  have HBX := Lib.hid hBX
  have HX0 := Lib.hid hX0
  have HX1 := Lib.hid hX1
  have HX2 := Lib.hid hX2
  have HXS := Lib.hid hXs
  have c0 := cell_of_row X (w.heap.size + 1) 0 _ _ _ hX1
  have HP := Lib.hid (fun W (hW : Below (w.heap.size + 2) X W) => And.intro (show W.cell? ⟨w.heap.size + 1, 0, none⟩ = some (.slice ac ctx.length capc) from cell_of_row W (w.heap.size + 1) 0 _ _ _ ((hW.block _ (by omega)).trans hX1))
    (And.intro (show W.cell? ⟨w.heap.size + 1, 1, none⟩ = some (.int .u64 (pos : Int)) from cell_of_row W (w.heap.size + 1) 1 _ _ _ ((hW.block _ (by omega)).trans hX1))
    (show W.cell? ⟨w.heap.size + 1, 2, none⟩ = some (.int .u32 (epoch : Int)) from cell_of_row W (w.heap.size + 1) 2 _ _ _ ((hW.block _ (by omega)).trans hX1))))
  clear hX hBX hX0 hX1 hX2 hXs
  go_upto_region 2 with (first
    | (refine wpList_load_row rfl 32 (.tmp 3) rfl w.heap.size rfl _ _ _ _ HX0.out Tryd.underlying32 rfl HIK.out ?_)
    | (go_at_call 45; (with_reducible refine Calls.mono (HDR.out X _ (HC.out.below HBX.out (Nat.le_refl _)) HBX.out) ?_); rintro e w2 ⟨rfl, hb⟩; have HB2 := Lib.hid hb; clear hb)
    | (refine wpList_store_row rfl 32 (.tmp 7) (.tmp 12) rfl _ _ rfl rfl _ _ (heap_alloc_new _ _) HIO.out (by rw [bytes_size, HOL.out]; rfl) (bytes_one _) ?_; rw [World.setRow_alloc_new]))
  obtain ⟨Y, hY, hBY, hYs, hY0⟩ := alloc1 w2 (.cells (bytes D) 32)
  rw [hY]
  have hz2 := HB2.out.size
  have hxs := HXS.out
  have hxy := HB2.out.trans (hBY.mono hz2)
  have HBY := Lib.hid (HBX.out.trans (hxy.mono HBX.out.size))
  have HY0 := Lib.hid hY0
  have HY2 := Lib.hid (fun W (hW : Below Y.heap.size Y W) => ((hxy.trans (hW.mono hxy.size)).block (w.heap.size + 2) (by omega)).trans HX2.out)
  have HPY := Lib.hid (fun W (hW : Below (w.heap.size + 2) Y W) => HP.out W ((hxy.mono (by omega)).trans hW))
  have HPY0 := Lib.hid (fun W hW => (HPY.out W hW).1)
  have HPY1 := Lib.hid (fun W hW => (HPY.out W hW).2.1)
  have HPY2 := Lib.hid (fun W hW => (HPY.out W hW).2.2)
  have HK2 := Lib.hid (fun W (hW : Below Y.heap.size Y W) => (hW.mono (by have := hxy.size; omega) : Below (w.heap.size + 2) Y W))
  have HZY := Lib.hid (show w.heap.size + 2 ≤ Y.heap.size by have := hxy.size; omega)
  have HYO := Lib.hid (fun W (hW : Below Y.heap.size Y W) => (show SlB W (.slice (some ⟨w2.heap.size, 0, none⟩) 32 32) D from sl_arr D ((hW.block _ (by omega)).trans hY0) HOL.out.symm (by rw [HOL.out]; omega)))
  have HCY := Lib.hid (HC.out.below HBY.out (Nat.le_refl _))
  have HSY := Lib.hid (HS.out.below HBY.out (Nat.le_refl _))
  have hwr : IntKind.u64.wrap (epoch : Int) = (epoch : Int) := by rw [wrap_u64_mod]; omega
  have hwc : IntKind.u64.wrap (ctx.length : Int) = (ctx.length : Int) := by rw [wrap_u64_mod]; omega
  clear hY hBY hYs hY0 hz2 hxs hxy HX0 HX1 HX2 HP HPY HXS HBX HB2 HDR c0
  -- REG A BEGIN
  refine wp_region_held_drew (S := fun W => Below (w.heap.size + 2) Y W) (by kernel_rfl) ((Below.refl (w.heap.size + 2) Y).drew) (fun hHeld => ?_)
  refine wpAnyH_take (i := 0) (v := ?v1) rfl (by kernel_rfl) (by kernel_rfl) (by kernel_rfl) (fun _ _ _ h => h) (Or.inl ⟨by rfl, ?y1⟩) (by assumption) ?r1
  case y1 =>
    intro w' hSw
    go_split_ands
    go_simp
    try with_reducible rfl
  try simp only [List.getElem_toArray, List.getElem_cons_zero, List.getElem_cons_succ, Act.put, List.setIfInBounds_toArray, List.set_cons_zero, List.set_cons_succ]
  refine wpAnyH_take (i := 1) (v := ?v2) rfl (by kernel_rfl) (by kernel_rfl) (by kernel_rfl) (fun _ _ _ h => h) (Or.inl ⟨by rfl, ?y2⟩) (by assumption) ?r2
  case y2 =>
    intro w' hSw
    go_split_ands
    go_simp
    try with_reducible rfl
  try simp only [List.getElem_toArray, List.getElem_cons_zero, List.getElem_cons_succ, Act.put, List.setIfInBounds_toArray, List.set_cons_zero, List.set_cons_succ]
  refine wpAnyH_take (i := 2) (v := ?v3) rfl (by kernel_rfl) (by kernel_rfl) (by kernel_rfl) (fun _ _ _ h => h) (Or.inl ⟨by rfl, ?y3⟩) (by assumption) ?r3
  case y3 =>
    intro w' hSw
    have c := HPY0.out w' hSw
    go_split_ands
    go_simp
    try with_reducible rfl
  try simp only [List.getElem_toArray, List.getElem_cons_zero, List.getElem_cons_succ, Act.put, List.setIfInBounds_toArray, List.set_cons_zero, List.set_cons_succ]
  refine wpAnyH_take (i := 3) (v := ?v4) rfl (by kernel_rfl) (by kernel_rfl) (by kernel_rfl) (fun _ _ _ h => h) (Or.inl ⟨by rfl, ?y4⟩) (by assumption) ?r4
  case y4 =>
    intro w' hSw
    go_split_ands
    go_simp
    try with_reducible rfl
  try simp only [List.getElem_toArray, List.getElem_cons_zero, List.getElem_cons_succ, Act.put, List.setIfInBounds_toArray, List.set_cons_zero, List.set_cons_succ]
  refine wpAnyH_take (i := 4) (v := ?v5) rfl (by kernel_rfl) (by kernel_rfl) (by kernel_rfl) (fun _ _ _ h => h) (Or.inl ⟨by rfl, ?y5⟩) (by assumption) ?r5
  case y5 =>
    intro w' hSw
    go_split_ands
    go_simp
    try with_reducible rfl
  try simp only [List.getElem_toArray, List.getElem_cons_zero, List.getElem_cons_succ, Act.put, List.setIfInBounds_toArray, List.set_cons_zero, List.set_cons_succ]
  refine wpAnyH_take (i := 6) (v := ?v6) rfl (by kernel_rfl) (by kernel_rfl) (by kernel_rfl) (fun _ _ _ h => h) (Or.inl ⟨by rfl, ?y6⟩) (by assumption) ?r6
  case y6 =>
    intro w' hSw
    go_split_ands
    go_simp
    try with_reducible rfl
  try simp only [List.getElem_toArray, List.getElem_cons_zero, List.getElem_cons_succ, Act.put, List.setIfInBounds_toArray, List.set_cons_zero, List.set_cons_succ]
  refine wpAnyH_take (i := 7) (v := ?v7) rfl (by kernel_rfl) (by kernel_rfl) (by kernel_rfl) (fun _ _ _ h => h) (Or.inl ⟨by rfl, ?y7⟩) (by assumption) ?r7
  case y7 =>
    intro w' hSw
    have c := HPY0.out w' hSw
    go_split_ands
    go_simp
    try with_reducible rfl
  try simp only [List.getElem_toArray, List.getElem_cons_zero, List.getElem_cons_succ, Act.put, List.setIfInBounds_toArray, List.set_cons_zero, List.set_cons_succ]
  refine wpAnyH_take (i := 8) (v := ?v8) rfl (by kernel_rfl) (by kernel_rfl) (by kernel_rfl) (fun _ _ _ h => h) (Or.inl ⟨by rfl, ?y8⟩) (by assumption) ?r8
  case y8 =>
    intro w' hSw
    go_split_ands
    go_simp
    try with_reducible rfl
  try simp only [List.getElem_toArray, List.getElem_cons_zero, List.getElem_cons_succ, Act.put, List.setIfInBounds_toArray, List.set_cons_zero, List.set_cons_succ]
  refine wpAnyH_take (i := 9) (v := ?v9) rfl (by kernel_rfl) (by kernel_rfl) (by kernel_rfl) (fun _ _ _ h => h) (Or.inl ⟨by rfl, ?y9⟩) (by assumption) ?r9
  case y9 =>
    intro w' hSw
    have c := HPY1.out w' hSw
    go_split_ands
    go_simp
    try with_reducible rfl
  try simp only [List.getElem_toArray, List.getElem_cons_zero, List.getElem_cons_succ, Act.put, List.setIfInBounds_toArray, List.set_cons_zero, List.set_cons_succ]
  refine wpAnyH_take (i := 11) (v := ?v10) rfl (by kernel_rfl) (by kernel_rfl) (by kernel_rfl) (fun _ _ _ h => h) (Or.inl ⟨by rfl, ?y10⟩) (by assumption) ?r10
  case y10 =>
    intro w' hSw
    go_split_ands
    go_simp
    try with_reducible rfl
  try simp only [List.getElem_toArray, List.getElem_cons_zero, List.getElem_cons_succ, Act.put, List.setIfInBounds_toArray, List.set_cons_zero, List.set_cons_succ]
  refine wpAnyH_take (i := 12) (v := ?v11) rfl (by kernel_rfl) (by kernel_rfl) (by kernel_rfl) (fun _ _ _ h => h) (Or.inl ⟨by rfl, ?y11⟩) (by assumption) ?r11
  case y11 =>
    intro w' hSw
    have c := HPY2.out w' hSw
    go_split_ands
    go_simp
    try with_reducible rfl
  try simp only [List.getElem_toArray, List.getElem_cons_zero, List.getElem_cons_succ, Act.put, List.setIfInBounds_toArray, List.set_cons_zero, List.set_cons_succ]
  refine wpAnyH_take (i := 13) (v := ?v12) rfl (by kernel_rfl) (by kernel_rfl) (by kernel_rfl) (fun _ _ _ h => h) (Or.inl ⟨by rfl, ?y12⟩) (by assumption) ?r12
  case y12 =>
    intro w' hSw
    go_split_ands
    go_simp
    try with_reducible rfl
  try simp only [List.getElem_toArray, List.getElem_cons_zero, List.getElem_cons_succ, Act.put, List.setIfInBounds_toArray, List.set_cons_zero, List.set_cons_succ]
  refine wpAnyH_take (i := 15) (v := ?v13) rfl (by kernel_rfl) (by kernel_rfl) (by kernel_rfl) (fun _ _ _ h => h) (Or.inl ⟨by rfl, ?y13⟩) (by assumption) ?r13
  case y13 =>
    intro w' hSw
    go_split_ands
    go_simp
    try with_reducible rfl
  try simp only [List.getElem_toArray, List.getElem_cons_zero, List.getElem_cons_succ, Act.put, List.setIfInBounds_toArray, List.set_cons_zero, List.set_cons_succ]
  refine wpAnyH_ready (rs := [5]) (by kernel_rfl) (by simp) ?_
  refine AllReadyH.cons (i := 5) rfl (fun K hK => ?_) AllReadyH.nil
  go_simp
  go_at_call 79
  (with_reducible refine Calls.mono (HNC.out _) ?_)
  rintro e w_1 ⟨v_3, rfl, ho, hb⟩
  obtain ⟨a_4, c_5, rfl⟩ := ho.sl.len
  have HB_2 := Lib.hid (((Below.refl Y.heap.size Y).drew).trans (hb.mono ((Below.refl Y.heap.size Y).drew).size))
  have K_6 := Lib.hid (HCY.out.drew.below (hb) (Nat.le_refl _))
  have K_7 := Lib.hid (HSY.out.drew.below (hb) (Nat.le_refl _))
  have K_8 := Lib.hid ho.sl
  clear hb ho
  refine hK.out _ _ (HK2.out _ (HB_2.out)) (fun hHeld' => ?_)
  clear hHeld hK K
  have hHeld := hHeld'
  clear hHeld'
  try simp only [List.getElem_toArray, List.getElem_cons_zero, List.getElem_cons_succ, Act.put, List.setIfInBounds_toArray, List.set_cons_zero, List.set_cons_succ]
  refine wpAnyH_ready (rs := [10]) (by kernel_rfl) (by simp) ?_
  refine AllReadyH.cons (i := 10) rfl (fun K hK => ?_) AllReadyH.nil
  go_simp
  go_at_call 79
  (with_reducible refine Calls.mono (HNP.out _) ?_)
  rintro e w_9 ⟨v_11, rfl, ho, hb⟩
  obtain ⟨a_12, c_13, rfl⟩ := ho.sl.len
  have HB_10 := Lib.hid ((HB_2.out).trans (hb.mono (HB_2.out).size))
  have K_14 := Lib.hid (K_6.out.below (hb) (Nat.le_refl _))
  have K_15 := Lib.hid (K_7.out.below (hb) (Nat.le_refl _))
  have K_16 := Lib.hid (K_8.out.below (hb) (Nat.le_refl _))
  have K_17 := Lib.hid ho.sl
  clear hb ho
  refine hK.out _ _ (HK2.out _ (HB_10.out)) (fun hHeld' => ?_)
  clear hHeld hK K
  have hHeld := hHeld'
  clear hHeld'
  try simp only [List.getElem_toArray, List.getElem_cons_zero, List.getElem_cons_succ, Act.put, List.setIfInBounds_toArray, List.set_cons_zero, List.set_cons_succ]
  refine wpAnyH_ready (rs := [14]) (by kernel_rfl) (by simp) ?_
  refine AllReadyH.cons (i := 14) rfl (fun K hK => ?_) AllReadyH.nil
  go_simp
  go_at_call 79
  (with_reducible refine Calls.mono (HNE.out _) ?_)
  rintro e w_18 ⟨v_20, rfl, ho, hb⟩
  obtain ⟨a_21, c_22, rfl⟩ := ho.sl.len
  have HB_19 := Lib.hid ((HB_10.out).trans (hb.mono (HB_10.out).size))
  have K_23 := Lib.hid (K_14.out.below (hb) (Nat.le_refl _))
  have K_24 := Lib.hid (K_15.out.below (hb) (Nat.le_refl _))
  have K_25 := Lib.hid (K_16.out.below (hb) (Nat.le_refl _))
  have K_26 := Lib.hid (K_17.out.below (hb) (Nat.le_refl _))
  have K_27 := Lib.hid ho.sl
  clear hb ho
  refine hK.out _ _ (HK2.out _ (HB_19.out)) (fun hHeld' => ?_)
  clear hHeld hK K
  have hHeld := hHeld'
  clear hHeld'
  try simp only [List.getElem_toArray, List.getElem_cons_zero, List.getElem_cons_succ, Act.put, List.setIfInBounds_toArray, List.set_cons_zero, List.set_cons_succ]
  refine wpAnyH_ready (rs := [16]) (by kernel_rfl) (by simp) ?_
  refine AllReadyH.cons (i := 16) rfl (fun K hK => ?_) AllReadyH.nil
  obtain ⟨w_28, hw_28⟩ : ∃ W, (w_18.alloc (.cells #[.slice a_4 nc.length c_5, .slice ac ctx.length capc, .slice a_12 n8.length c_13, .slice a_21 n4.length c_22, .slice ab b.length capb] 22)) = W := ⟨_, rfl⟩
  go_simp
  try rw [hw_28]
  have hb : Below w_18.heap.size w_18 w_28 := by rw [← hw_28]; exact Below.alloc (Below.refl _ _) (Nat.le_refl _) _
  have K_31 := Lib.hid (K_23.out.below (hb) (Nat.le_refl _))
  have K_32 := Lib.hid (K_24.out.below (hb) (Nat.le_refl _))
  have K_33 := Lib.hid (K_25.out.below (hb) (Nat.le_refl _))
  have K_34 := Lib.hid (K_26.out.below (hb) (Nat.le_refl _))
  have K_35 := Lib.hid (K_27.out.below (hb) (Nat.le_refl _))
  have H_29 := Lib.hid (show w_28.heap[w_18.heap.size]? = some (.cells #[.slice a_4 nc.length c_5, .slice ac ctx.length capc, .slice a_12 n8.length c_13, .slice a_21 n4.length c_22, .slice ab b.length capb] 22) by rw [← hw_28]; exact heap_alloc_new w_18 _)
  have HB_30 := Lib.hid ((HB_19.out).trans (hb.mono (HB_19.out).size))
  clear hw_28 hb
  refine hK.out _ _ (HK2.out _ (HB_30.out)) (fun hHeld' => ?_)
  clear hHeld hK K
  have hHeld := hHeld'
  clear hHeld'
  try simp only [List.getElem_toArray, List.getElem_cons_zero, List.getElem_cons_succ, Act.put, List.setIfInBounds_toArray, List.set_cons_zero, List.set_cons_succ]
  refine wpAnyH_ready (rs := [17]) (by kernel_rfl) (by simp) ?_
  refine AllReadyH.cons (i := 17) rfl (fun K hK => ?_) AllReadyH.nil
  go_simp
  go_at_call 78
  (with_reducible refine Calls.mono (HLD.out _ _ _ _ _ _ _ _ _ H_29.out K_33.out K_31.out K_34.out K_35.out K_32.out) ?_)
  rintro e w_36 ⟨v_38, rfl, ho, hb⟩
  obtain ⟨a_39, c_40, rfl⟩ := ho.sl.len
  have HB_37 := Lib.hid ((HB_30.out).trans (hb.mono (HB_30.out).size))
  have K_41 := Lib.hid (K_31.out.below (hb) (Nat.le_refl _))
  have K_42 := Lib.hid (K_32.out.below (hb) (Nat.le_refl _))
  have K_43 := Lib.hid (K_33.out.below (hb) (Nat.le_refl _))
  have K_44 := Lib.hid (K_34.out.below (hb) (Nat.le_refl _))
  have K_45 := Lib.hid (K_35.out.below (hb) (Nat.le_refl _))
  have H_46 := Lib.hid (((hb).block _ (Array.getElem?_eq_some_iff.1 H_29.out).1).trans H_29.out)
  have K_47 := Lib.hid ho.sl
  clear hb ho
  refine hK.out _ _ (HK2.out _ (HB_37.out)) (fun hHeld' => ?_)
  clear hHeld hK K
  have hHeld := hHeld'
  clear hHeld'
  try simp only [List.getElem_toArray, List.getElem_cons_zero, List.getElem_cons_succ, Act.put, List.setIfInBounds_toArray, List.set_cons_zero, List.set_cons_succ]
  refine wpAnyH_ready (rs := [18]) (by kernel_rfl) (by simp) ?_
  refine AllReadyH.cons (i := 18) rfl (fun K hK => ?_) AllReadyH.nil
  go_simp
  go_at_call 41
  (with_reducible refine Calls.mono (HMA.out _ _ _ (HYO.out _ (HB_37.out)) K_47.out (HBY.out.trans ((HB_37.out).mono HBY.out.size))) ?_)
  rintro e w_48 ⟨rfl, hb⟩
  have HB_49 := Lib.hid ((HB_37.out).trans (hb.mono (HB_37.out).size))
  have K_50 := Lib.hid (K_41.out.below (hb) (Nat.le_refl _))
  have K_51 := Lib.hid (K_42.out.below (hb) (Nat.le_refl _))
  have K_52 := Lib.hid (K_43.out.below (hb) (Nat.le_refl _))
  have K_53 := Lib.hid (K_44.out.below (hb) (Nat.le_refl _))
  have K_54 := Lib.hid (K_45.out.below (hb) (Nat.le_refl _))
  have K_55 := Lib.hid (K_47.out.below (hb) (Nat.le_refl _))
  have H_56 := Lib.hid (((hb).block _ (Array.getElem?_eq_some_iff.1 H_46.out).1).trans H_46.out)
  clear hb
  refine hK.out _ _ (HK2.out _ (HB_49.out)) (fun hHeld' => ?_)
  clear hHeld hK K
  have hHeld := hHeld'
  clear hHeld'
  try simp only [List.getElem_toArray, List.getElem_cons_zero, List.getElem_cons_succ, Act.put, List.setIfInBounds_toArray, List.set_cons_zero, List.set_cons_succ]
  refine wpAnyH_ready (rs := [19]) (by kernel_rfl) (by simp) ?_
  refine AllReadyH.cons (i := 19) rfl (fun K hK => ?_) AllReadyH.nil
  refine any_of_list (by rfl) (fun Q' hQ' => ?_)
  try simp only [List.getElem_toArray, List.getElem_cons_zero, List.getElem_cons_succ]
  have h6 := HY2.out _ (HB_49.out)
  refine wpList_store_row rfl 32 (.tmp 6) (.tmp 31) rfl (w.heap.size + 2) _ rfl rfl _ _ h6 HIT.out (by rw [bytes_size, bytes_size, HTL.out]; rfl) (bytes_one _) ?_
  have HEND := Lib.hid (And.intro (setRow_heap _ (w.heap.size + 2) _ (bytes T) _ _ h6) ((Kept.ofBelow (l := [w.heap.size + 2]) (HB_49.out) (Nat.le_refl _)).setRow (b := w.heap.size + 2) (by simp) (bytes T)))
  clear h6
  refine hQ' _ _ (hK.out _ _ (HEND.out.2.toBelow (by simp) HZY.out) (fun hHeld' => ?_))
  clear hHeld hK K hQ' Q'
  have hHeld := hHeld'
  clear hHeld'
  try simp only [List.getElem_toArray, List.getElem_cons_zero, List.getElem_cons_succ, Act.put, List.setIfInBounds_toArray, List.set_cons_zero, List.set_cons_succ]
  refine wpAnyH_done (by kernel_rfl) ?_ _
  go_wp2_with fail
  exact bodyPost_ret (results_cell_row Tryd.results81 _ _ (w.heap.size + 2) _ _ _ _ rfl HEND.out.1 Tryd.underlying32 rfl HIT.out) rfl ⟨rfl, HBY.out.trans (HEND.out.2.toBelow (B := w.heap.size) (by simp) HBY.out.size)⟩
  -- REG A END
end Go.Proofs.YtnoilogepkelaaaDoor
namespace Go.Proofs.YtnoilogepkelaaaDoor
set_option linter.unusedVariables false
set_option linter.unusedSimpArgs false
open Go Go.RowKit

/-- A slice of the call's own comes back, and OK. -/
def RetB2 (w : World) (xs : List (BitVec 8)) (e : Ending) (w' : World) : Prop :=
  ∃ v', e = .returned (.tuple #[v', .int .i64 0]) ∧ OwnB 5 w.heap.size w' v' xs ∧ Below w.heap.size w w'

set_option maxRecDepth 100000 in
theorem seal_long (key ctx text : List (BitVec 8)) (vc v : Value) (pos epoch : Nat) (w : World) (hs : SlB w v text) (hl : 131068 < text.length) :
    Calls Tryd.prog 53 #[.agg (bytes key), .agg #[vc, .int .u64 (pos : Int), .int .u32 (epoch : Int)], v] w fun e w' => e = .returned (.tuple #[.slice none 0 0, .int .i64 3]) ∧ Below w.heap.size w w' := by
  obtain ⟨a, cap, rfl⟩ := hs.len
  have hb := hs.bounds.2
  unfold maxLen at hb
  have HBK := Lib.hid (fun W => bucket_nat text.length (by omega) W)
  rw [Sea.bucket_none _ hl] at HBK
  generalize text.length = n at *
  generalize bytes key = kb
  clear hs hl hb
  go_enter Tryd.func53, Tryd.ntmps53
  go_wp2_with (go_at_call 49; (with_reducible refine Calls.mono (HBK.out _) ?_); rintro e w' ⟨rfl, rfl⟩)
  refine bodyPost_ret (v := .tuple #[.slice none 0 0, .int .i64 3]) (by simp [results, Tryd.results53, go_sem]) rfl ⟨rfl, ?_⟩
  exact ((Below.refl w.heap.size w).alloc (Nat.le_refl _) _).alloc (by simp) _

set_option maxRecDepth 100000 in
set_option maxHeartbeats 4000000 in
theorem seal_ok (key ctx : List (BitVec 8)) (hk : key.length = 32) (hcl : ctx.length ≤ 1000000) (vc : Value) (pos epoch : Nat) (hp : pos < 18446744073709551616) (he : epoch < 4294967296) (text : List (BitVec 8)) (v : Value) (w : World) (hs : SlB w v text) (hcs : SlB w vc ctx) (hl : text.length ≤ 131068) (hG : Glob w) :
    Calls Tryd.prog 53 #[.agg (bytes key), .agg #[vc, .int .u64 (pos : Int), .int .u32 (epoch : Int)], v] w (RetB2 w (Sea.seal_ key ctx pos epoch text)) := by
  have hgz := hG.size
  obtain ⟨ac, capc, rfl⟩ := hcs.len
  obtain ⟨at_, capt, rfl⟩ := hs.len
  have hsp := Sea.bucket_spec text.length hl
  have hble := Sea.bucket_le text.length
  have hpl := Sea.padded_length text hl
  have HBK := Lib.hid (fun W => bucket_nat text.length (by omega) W)
  have HNE := Lib.hid (show ∀ W, Calls Tryd.prog 79 #[.int .u64 (epoch : Int), .int .i64 4] W (RetB W (Num.num epoch 4)) from fun W => number_any epoch 4 (by omega) (by omega) W)
  have HNT := Lib.hid (show ∀ W, Calls Tryd.prog 79 #[.int .u64 (text.length : Int), .int .i64 4] W (RetB W (Num.num text.length 4)) from fun W => number_any text.length 4 (by omega) (by omega) W)
  have HLP := Lib.hid (fun W g v1 v2 v3 t fr h h1 h2 h3 => laid3 W g v1 v2 v3 (Num.num text.length 4) text (List.replicate (Sea.bucket text.length - 4 - text.length) 0) t fr h h1 h2 h3 (by simp only [Num.num_length, List.length_replicate]; omega))
  rw [show Num.num text.length 4 ++ text ++ List.replicate (Sea.bucket text.length - 4 - text.length) 0 = Sea.padded text from rfl] at HLP
  have HST := Lib.hid (fun W u vc' (h : SlB W u (Sea.padded text)) (hc : SlB W vc' ctx) (hB : Below w.heap.size w W) => sstream_any key ctx hk hcl vc' pos epoch hp he (Sea.padded text) u W h hc (by omega) (hG.below hB hgz))
  rw [show Sea.stream key ctx pos epoch (Sea.padded text) = Sea.body key ctx pos epoch text from rfl] at HST
  have hbl := Sea.body_length key ctx pos epoch text hl
  have HTG := Lib.hid (fun W u vc' (h : SlB W u (Sea.body key ctx pos epoch text)) (hc : SlB W vc' ctx) (hB : Below w.heap.size w W) => stag_any key ctx hk hcl vc' pos epoch hp he (Sea.body key ctx pos epoch text) u W h hc (by omega) (hG.below hB hgz))
  have HLS := Lib.hid (fun W g v1 v2 v3 t fr h h1 h2 h3 => laid3 W g v1 v2 v3 (Num.num epoch 4) (Sea.body key ctx pos epoch text) (Sea.tag_ key ctx pos epoch (Sea.body key ctx pos epoch text)) t fr h h1 h2 h3 (by simp only [Num.num_length, Sea.tag_length]; omega))
  rw [show Num.num epoch 4 ++ Sea.body key ctx pos epoch text ++ Sea.tag_ key ctx pos epoch (Sea.body key ctx pos epoch text) = Sea.seal_ key ctx pos epoch text from rfl] at HLS
  have htl := Sea.tag_length key ctx pos epoch (Sea.body key ctx pos epoch text)
  have HIK := Lib.hid (show (Tryd.prog.info? 32).map (·.size) = some (bytes key).size by rw [bytes_size, hk]; kernel_rfl)
  have HIT := Lib.hid (show (Tryd.prog.info? 32).map (·.size) = some (bytes (Sea.tag_ key ctx pos epoch (Sea.body key ctx pos epoch text))).size by rw [bytes_size, htl]; kernel_rfl)
  obtain ⟨T, hT⟩ : ∃ T, Sea.tag_ key ctx pos epoch (Sea.body key ctx pos epoch text) = T := ⟨_, rfl⟩
  rw [hT] at HTG HLS HIT htl
  obtain ⟨BD, hBD⟩ : ∃ BD, Sea.body key ctx pos epoch text = BD := ⟨_, rfl⟩
  rw [hBD] at HST HTG HLS hbl
  obtain ⟨SL, hSL⟩ : ∃ SL, Sea.seal_ key ctx pos epoch text = SL := ⟨_, rfl⟩
  rw [hSL] at HLS ⊢
  obtain ⟨PD, hPD⟩ : ∃ PD, Sea.padded text = PD := ⟨_, rfl⟩
  rw [hPD] at HST HLP hpl
  obtain ⟨kb, hkb⟩ : ∃ kb, bytes key = kb := ⟨_, rfl⟩
  rw [hkb] at HIK HST HTG ⊢
  obtain ⟨n4, hn4⟩ : ∃ n4, Num.num epoch 4 = n4 := ⟨_, rfl⟩
  obtain ⟨nt, hnt⟩ : ∃ nt, Num.num text.length 4 = nt := ⟨_, rfl⟩
  rw [hn4] at HNE HLS
  rw [hnt] at HNT HLP
  have HTL := Lib.hid htl
  have HC := Lib.hid hcs
  have HS := Lib.hid hs
  obtain ⟨B, hB⟩ : ∃ B, Sea.bucket text.length = B := ⟨_, rfl⟩
  rw [hB] at HBK HLP hsp hble
  obtain ⟨n, hn⟩ : ∃ n, text.length = n := ⟨_, rfl⟩
  rw [hn] at HBK HNT HLP HS hsp hl ⊢
  obtain ⟨z, hz⟩ : ∃ z, B - 4 - n = z := ⟨_, rfl⟩
  rw [hz] at HLP
  have hB0 : 0 < (B : Int) := by omega
  have hB1 : (B : Int) ≤ 131072 := by omega
  have hzz : (z : Int) = (B : Int) - 4 - n := by omega
  have HZ := Lib.hid (show z ≤ 1000000 by omega)
  have HZI := Lib.hid hzz
  have HNI := Lib.hid (show IntKind.i64.wrap ((B : Int) - 4) = (B : Int) - 4 ∧ IntKind.i64.wrap ((B : Int) - 4 - n) = (z : Int) ∧ IntKind.u64.wrap (n : Int) = (n : Int) by
    refine ⟨?_, ?_, ?_⟩
    · rw [IntKind.wrap_i64]; omega
    · rw [IntKind.wrap_i64]; omega
    · rw [wrap_u64_mod]; omega)
  clear hk hs hcs hl hG hT hBD hSL hPD hkb hn4 hnt hB hn hz hsp hble hpl hbl htl hzz
  go_enter Tryd.func53, Tryd.ntmps53
  go_upto_region 1 with fail
  obtain ⟨X, hX, hBX, hXs, hX0, hX1⟩ := alloc2 w (.cells kb 32) (.cells #[.slice ac ctx.length capc, .int .u64 (pos : Int), .int .u32 (epoch : Int)] 70)
  rw [hX]
  have HBX := Lib.hid hBX
  have HX0 := Lib.hid hX0
  have HX1 := Lib.hid hX1
  have HXS := Lib.hid hXs
  clear hX hBX hX0 hX1 hXs
  go_upto_region 4 with (go_at_call 49; (with_reducible refine Calls.mono (HBK.out _) ?_); rintro e w' ⟨rfl, rfl⟩)
  have HSX := Lib.hid (HS.out.below HBX.out (Nat.le_refl _))
  go_cut [9] (fun s9 wx => ∃ a cap, s9 = .slice a PD.length cap ∧ Hid (SlB wx (.slice a PD.length cap) PD) ∧ Hid (Below X.heap.size X wx))
  case first =>
    have ⟨hn1, hn2, hn3⟩ := HNI.out
    -- REG A BEGIN
    refine wp_region_held_drew (S := fun W => Below X.heap.size X W) (by kernel_rfl) ((Below.refl X.heap.size X).drew) (fun hHeld => ?_)
    refine wpAnyH_take (i := 0) (v := ?v1) rfl (by kernel_rfl) (by kernel_rfl) (by kernel_rfl) (fun _ _ _ h => h) (Or.inl ⟨by rfl, ?y1⟩) (by assumption) ?r1
    case y1 =>
      intro w' hSw
      go_split_ands
      go_simp
      try with_reducible rfl
    try simp only [List.getElem_toArray, List.getElem_cons_zero, List.getElem_cons_succ, Act.put, List.setIfInBounds_toArray, List.set_cons_zero, List.set_cons_succ]
    refine wpAnyH_take (i := 1) (v := ?v2) rfl (by kernel_rfl) (by kernel_rfl) (by kernel_rfl) (fun _ _ _ h => h) (Or.inl ⟨by rfl, ?y2⟩) (by assumption) ?r2
    case y2 =>
      intro w' hSw
      go_split_ands
      go_simp
      try with_reducible rfl
    try simp only [List.getElem_toArray, List.getElem_cons_zero, List.getElem_cons_succ, Act.put, List.setIfInBounds_toArray, List.set_cons_zero, List.set_cons_succ]
    refine wpAnyH_take (i := 2) (v := ?v3) rfl (by kernel_rfl) (by kernel_rfl) (by kernel_rfl) (fun _ _ _ h => h) (Or.inl ⟨by rfl, ?y3⟩) (by assumption) ?r3
    case y3 =>
      intro w' hSw
      go_split_ands
      go_simp
      try with_reducible rfl
    try simp only [List.getElem_toArray, List.getElem_cons_zero, List.getElem_cons_succ, Act.put, List.setIfInBounds_toArray, List.set_cons_zero, List.set_cons_succ]
    refine wpAnyH_take (i := 4) (v := ?v4) rfl (by kernel_rfl) (by kernel_rfl) (by kernel_rfl) (fun _ _ _ h => h) (Or.inl ⟨by rfl, ?y4⟩) (by assumption) ?r4
    case y4 =>
      intro w' hSw
      go_split_ands
      go_simp
      try with_reducible rfl
    try simp only [List.getElem_toArray, List.getElem_cons_zero, List.getElem_cons_succ, Act.put, List.setIfInBounds_toArray, List.set_cons_zero, List.set_cons_succ]
    refine wpAnyH_take (i := 5) (v := ?v5) rfl (by kernel_rfl) (by kernel_rfl) (by kernel_rfl) (fun _ _ _ h => h) (Or.inl ⟨by rfl, ?y5⟩) (by assumption) ?r5
    case y5 =>
      intro w' hSw
      go_split_ands
      go_simp
      try with_reducible rfl
    try simp only [List.getElem_toArray, List.getElem_cons_zero, List.getElem_cons_succ, Act.put, List.setIfInBounds_toArray, List.set_cons_zero, List.set_cons_succ]
    refine wpAnyH_take (i := 6) (v := ?v6) rfl (by kernel_rfl) (by kernel_rfl) (by kernel_rfl) (fun _ _ _ h => h) (Or.inl ⟨by rfl, ?y6⟩) (by assumption) ?r6
    case y6 =>
      intro w' hSw
      go_split_ands
      go_simp
      try with_reducible rfl
    try simp only [List.getElem_toArray, List.getElem_cons_zero, List.getElem_cons_succ, Act.put, List.setIfInBounds_toArray, List.set_cons_zero, List.set_cons_succ]
    refine wpAnyH_take (i := 7) (v := ?v7) rfl (by kernel_rfl) (by kernel_rfl) (by kernel_rfl) (fun _ _ _ h => h) (Or.inl ⟨by rfl, ?y7⟩) (by assumption) ?r7
    case y7 =>
      intro w' hSw
      go_split_ands
      go_simp
      try with_reducible rfl
    try simp only [List.getElem_toArray, List.getElem_cons_zero, List.getElem_cons_succ, Act.put, List.setIfInBounds_toArray, List.set_cons_zero, List.set_cons_succ]
    refine wpAnyH_take (i := 8) (v := ?v8) rfl (by kernel_rfl) (by kernel_rfl) (by kernel_rfl) (fun _ _ _ h => h) (Or.inl ⟨by rfl, ?y8⟩) (by assumption) ?r8
    case y8 =>
      intro w' hSw
      go_split_ands
      go_simp
      try with_reducible rfl
    try simp only [List.getElem_toArray, List.getElem_cons_zero, List.getElem_cons_succ, Act.put, List.setIfInBounds_toArray, List.set_cons_zero, List.set_cons_succ]
    refine wpAnyH_take (i := 9) (v := ?v9) rfl (by kernel_rfl) (by kernel_rfl) (by kernel_rfl) (fun _ _ _ h => h) (Or.inl ⟨by rfl, ?y9⟩) (by assumption) ?r9
    case y9 =>
      intro w' hSw
      go_split_ands
      go_simp
      try with_reducible rfl
    try simp only [List.getElem_toArray, List.getElem_cons_zero, List.getElem_cons_succ, Act.put, List.setIfInBounds_toArray, List.set_cons_zero, List.set_cons_succ]
    refine wpAnyH_ready (rs := [3, 10]) (by kernel_rfl) (by simp) ?_
    refine (AllReadyH.cons (i := 3) rfl (fun K hK => ?_) (AllReadyH.cons (i := 10) rfl (fun K hK => ?_) AllReadyH.nil))
    · go_simp
      go_at_call 79
      (with_reducible refine Calls.mono (HNT.out _) ?_)
      rintro e w_1 ⟨v_3, rfl, ho, hb⟩
      obtain ⟨a_4, c_5, rfl⟩ := ho.sl.len
      have HB_2 := Lib.hid (((Below.refl X.heap.size X).drew).trans (hb.mono ((Below.refl X.heap.size X).drew).size))
      have K_6 := Lib.hid (HSX.out.drew.below (hb) (Nat.le_refl _))
      have K_7 := Lib.hid ho.sl
      clear hb ho
      refine hK.out _ _ (HB_2.out) (fun hHeld' => ?_)
      clear hHeld hK K
      have hHeld := hHeld'
      clear hHeld'
      try simp only [List.getElem_toArray, List.getElem_cons_zero, List.getElem_cons_succ, Act.put, List.setIfInBounds_toArray, List.set_cons_zero, List.set_cons_succ]
      refine wpAnyH_ready (rs := [10]) (by kernel_rfl) (by simp) ?_
      refine AllReadyH.cons (i := 10) rfl (fun K hK => ?_) AllReadyH.nil
      have hm := made_bytes z HZ.out w_1
      obtain ⟨w_8, hw_8⟩ : ∃ W', World.alloc w_1 (.cells (bytes (List.replicate z 0)) 5) = W' := ⟨_, rfl⟩
      rw [hw_8] at hm
      go_simp
      clear hm
      have hb : Below w_1.heap.size w_1 w_8 := by rw [← hw_8]; exact Below.alloc (Below.refl _ _) (Nat.le_refl _) _
      have K_11 := Lib.hid (K_6.out.below (hb) (Nat.le_refl _))
      have K_12 := Lib.hid (K_7.out.below (hb) (Nat.le_refl _))
      have K_10 := Lib.hid (show SlB w_8 (.slice (some ⟨w_1.heap.size, 0, none⟩) z z) (List.replicate z 0) by rw [← hw_8]; have hh := (OwnB.made (E := 5) (base := 0) w_1 (List.replicate z 0) (Nat.zero_le _) (by have := HZ.out; unfold maxLen; simp; omega)).sl; rwa [List.length_replicate] at hh)
      have HB_9 := Lib.hid ((HB_2.out).trans (hb.mono (HB_2.out).size))
      clear hw_8 hb
      refine hK.out _ _ (HB_9.out) (fun hHeld' => ?_)
      clear hHeld hK K
      have hHeld := hHeld'
      clear hHeld'
      try simp only [List.getElem_toArray, List.getElem_cons_zero, List.getElem_cons_succ, Act.put, List.setIfInBounds_toArray, List.set_cons_zero, List.set_cons_succ]
      refine wpAnyH_ready (rs := [11]) (by kernel_rfl) (by simp) ?_
      refine AllReadyH.cons (i := 11) rfl (fun K hK => ?_) AllReadyH.nil
      obtain ⟨w_13, hw_13⟩ : ∃ W, (w_8.alloc (.cells #[.slice a_4 nt.length c_5, .slice at_ n capt, .slice (some ⟨w_1.heap.size, 0, none⟩) z z] 22)) = W := ⟨_, rfl⟩
      go_simp
      try rw [hw_13]
      have hb : Below w_8.heap.size w_8 w_13 := by rw [← hw_13]; exact Below.alloc (Below.refl _ _) (Nat.le_refl _) _
      have K_16 := Lib.hid (K_11.out.below (hb) (Nat.le_refl _))
      have K_17 := Lib.hid (K_12.out.below (hb) (Nat.le_refl _))
      have K_18 := Lib.hid (K_10.out.below (hb) (Nat.le_refl _))
      have H_14 := Lib.hid (show w_13.heap[w_8.heap.size]? = some (.cells #[.slice a_4 nt.length c_5, .slice at_ n capt, .slice (some ⟨w_1.heap.size, 0, none⟩) z z] 22) by rw [← hw_13]; exact heap_alloc_new w_8 _)
      have HB_15 := Lib.hid ((HB_9.out).trans (hb.mono (HB_9.out).size))
      clear hw_13 hb
      refine hK.out _ _ (HB_15.out) (fun hHeld' => ?_)
      clear hHeld hK K
      have hHeld := hHeld'
      clear hHeld'
      try simp only [List.getElem_toArray, List.getElem_cons_zero, List.getElem_cons_succ, Act.put, List.setIfInBounds_toArray, List.set_cons_zero, List.set_cons_succ]
      refine wpAnyH_ready (rs := [12]) (by kernel_rfl) (by simp) ?_
      refine AllReadyH.cons (i := 12) rfl (fun K hK => ?_) AllReadyH.nil
      go_simp
      go_at_call 78
      (with_reducible refine Calls.mono (HLP.out _ _ _ _ _ _ _ H_14.out K_17.out K_16.out K_18.out) ?_)
      rintro e w_19 ⟨v_21, rfl, ho, hb⟩
      obtain ⟨a_22, c_23, rfl⟩ := ho.sl.len
      have HB_20 := Lib.hid ((HB_15.out).trans (hb.mono (HB_15.out).size))
      have K_24 := Lib.hid (K_16.out.below (hb) (Nat.le_refl _))
      have K_25 := Lib.hid (K_17.out.below (hb) (Nat.le_refl _))
      have K_26 := Lib.hid (K_18.out.below (hb) (Nat.le_refl _))
      have H_27 := Lib.hid (((hb).block _ (Array.getElem?_eq_some_iff.1 H_14.out).1).trans H_14.out)
      have K_28 := Lib.hid ho.sl
      clear hb ho
      refine hK.out _ _ (HB_20.out) (fun hHeld' => ?_)
      clear hHeld hK K
      have hHeld := hHeld'
      clear hHeld'
      try simp only [List.getElem_toArray, List.getElem_cons_zero, List.getElem_cons_succ, Act.put, List.setIfInBounds_toArray, List.set_cons_zero, List.set_cons_succ]
      refine wpAnyH_take (i := 13) (v := ?v10) rfl (by kernel_rfl) (by kernel_rfl) (by kernel_rfl) (fun _ _ _ h => h) (Or.inl ⟨by rfl, ?y10⟩) (by assumption) ?r10
      case y10 =>
        intro w' hSw
        go_split_ands
        go_simp
        try with_reducible rfl
      try simp only [List.getElem_toArray, List.getElem_cons_zero, List.getElem_cons_succ, Act.put, List.setIfInBounds_toArray, List.set_cons_zero, List.set_cons_succ]
      refine wpAnyH_done (by kernel_rfl) ?_ _
      go_wp2_with fail
      go_meet
      exact ⟨_, _, rfl, Lib.hid K_28.out, Lib.hid (HB_20.out)⟩
    · have hm := made_bytes z HZ.out X.drew
      obtain ⟨w_29, hw_29⟩ : ∃ W', World.alloc X.drew (.cells (bytes (List.replicate z 0)) 5) = W' := ⟨_, rfl⟩
      rw [hw_29] at hm
      rw [show X.drew.heap.size = X.heap.size from rfl] at hm
      go_simp
      clear hm
      have hb : Below X.drew.heap.size X.drew w_29 := by rw [← hw_29]; exact Below.alloc (Below.refl _ _) (Nat.le_refl _) _
      have K_32 := Lib.hid (HSX.out.drew.below (hb) (Nat.le_refl _))
      have K_31 := Lib.hid (show SlB w_29 (.slice (some ⟨X.heap.size, 0, none⟩) z z) (List.replicate z 0) by rw [← hw_29]; have hh := (OwnB.made (E := 5) (base := 0) X.drew (List.replicate z 0) (Nat.zero_le _) (by have := HZ.out; unfold maxLen; simp; omega)).sl; rwa [List.length_replicate] at hh)
      have HB_30 := Lib.hid (((Below.refl X.heap.size X).drew).trans (hb.mono ((Below.refl X.heap.size X).drew).size))
      clear hw_29 hb
      refine hK.out _ _ (HB_30.out) (fun hHeld' => ?_)
      clear hHeld hK K
      have hHeld := hHeld'
      clear hHeld'
      try simp only [List.getElem_toArray, List.getElem_cons_zero, List.getElem_cons_succ, Act.put, List.setIfInBounds_toArray, List.set_cons_zero, List.set_cons_succ]
      refine wpAnyH_ready (rs := [3]) (by kernel_rfl) (by simp) ?_
      refine AllReadyH.cons (i := 3) rfl (fun K hK => ?_) AllReadyH.nil
      go_simp
      go_at_call 79
      (with_reducible refine Calls.mono (HNT.out _) ?_)
      rintro e w_33 ⟨v_35, rfl, ho, hb⟩
      obtain ⟨a_36, c_37, rfl⟩ := ho.sl.len
      have HB_34 := Lib.hid ((HB_30.out).trans (hb.mono (HB_30.out).size))
      have K_38 := Lib.hid (K_32.out.below (hb) (Nat.le_refl _))
      have K_39 := Lib.hid (K_31.out.below (hb) (Nat.le_refl _))
      have K_40 := Lib.hid ho.sl
      clear hb ho
      refine hK.out _ _ (HB_34.out) (fun hHeld' => ?_)
      clear hHeld hK K
      have hHeld := hHeld'
      clear hHeld'
      try simp only [List.getElem_toArray, List.getElem_cons_zero, List.getElem_cons_succ, Act.put, List.setIfInBounds_toArray, List.set_cons_zero, List.set_cons_succ]
      refine wpAnyH_ready (rs := [11]) (by kernel_rfl) (by simp) ?_
      refine AllReadyH.cons (i := 11) rfl (fun K hK => ?_) AllReadyH.nil
      obtain ⟨w_41, hw_41⟩ : ∃ W, (w_33.alloc (.cells #[.slice a_36 nt.length c_37, .slice at_ n capt, .slice (some ⟨X.heap.size, 0, none⟩) z z] 22)) = W := ⟨_, rfl⟩
      go_simp
      try rw [hw_41]
      have hb : Below w_33.heap.size w_33 w_41 := by rw [← hw_41]; exact Below.alloc (Below.refl _ _) (Nat.le_refl _) _
      have K_44 := Lib.hid (K_38.out.below (hb) (Nat.le_refl _))
      have K_45 := Lib.hid (K_39.out.below (hb) (Nat.le_refl _))
      have K_46 := Lib.hid (K_40.out.below (hb) (Nat.le_refl _))
      have H_42 := Lib.hid (show w_41.heap[w_33.heap.size]? = some (.cells #[.slice a_36 nt.length c_37, .slice at_ n capt, .slice (some ⟨X.heap.size, 0, none⟩) z z] 22) by rw [← hw_41]; exact heap_alloc_new w_33 _)
      have HB_43 := Lib.hid ((HB_34.out).trans (hb.mono (HB_34.out).size))
      clear hw_41 hb
      refine hK.out _ _ (HB_43.out) (fun hHeld' => ?_)
      clear hHeld hK K
      have hHeld := hHeld'
      clear hHeld'
      try simp only [List.getElem_toArray, List.getElem_cons_zero, List.getElem_cons_succ, Act.put, List.setIfInBounds_toArray, List.set_cons_zero, List.set_cons_succ]
      refine wpAnyH_ready (rs := [12]) (by kernel_rfl) (by simp) ?_
      refine AllReadyH.cons (i := 12) rfl (fun K hK => ?_) AllReadyH.nil
      go_simp
      go_at_call 78
      (with_reducible refine Calls.mono (HLP.out _ _ _ _ _ _ _ H_42.out K_46.out K_44.out K_45.out) ?_)
      rintro e w_47 ⟨v_49, rfl, ho, hb⟩
      obtain ⟨a_50, c_51, rfl⟩ := ho.sl.len
      have HB_48 := Lib.hid ((HB_43.out).trans (hb.mono (HB_43.out).size))
      have K_52 := Lib.hid (K_44.out.below (hb) (Nat.le_refl _))
      have K_53 := Lib.hid (K_45.out.below (hb) (Nat.le_refl _))
      have K_54 := Lib.hid (K_46.out.below (hb) (Nat.le_refl _))
      have H_55 := Lib.hid (((hb).block _ (Array.getElem?_eq_some_iff.1 H_42.out).1).trans H_42.out)
      have K_56 := Lib.hid ho.sl
      clear hb ho
      refine hK.out _ _ (HB_48.out) (fun hHeld' => ?_)
      clear hHeld hK K
      have hHeld := hHeld'
      clear hHeld'
      try simp only [List.getElem_toArray, List.getElem_cons_zero, List.getElem_cons_succ, Act.put, List.setIfInBounds_toArray, List.set_cons_zero, List.set_cons_succ]
      refine wpAnyH_take (i := 13) (v := ?v11) rfl (by kernel_rfl) (by kernel_rfl) (by kernel_rfl) (fun _ _ _ h => h) (Or.inl ⟨by rfl, ?y11⟩) (by assumption) ?r11
      case y11 =>
        intro w' hSw
        go_split_ands
        go_simp
        try with_reducible rfl
      try simp only [List.getElem_toArray, List.getElem_cons_zero, List.getElem_cons_succ, Act.put, List.setIfInBounds_toArray, List.set_cons_zero, List.set_cons_succ]
      refine wpAnyH_done (by kernel_rfl) ?_ _
      go_wp2_with fail
      go_meet
      exact ⟨_, _, rfl, Lib.hid K_56.out, Lib.hid (HB_48.out)⟩
    -- REG A END
  case rest =>
    obtain ⟨a9, cap9, rfl, HPD, HBW⟩ := hcut
    have hxs := HXS.out
    have HWW := Lib.hid (HBX.out.trans (HBW.out.mono HBX.out.size))
    have HW0 := Lib.hid ((HBW.out.block w.heap.size (by omega)).trans HX0.out)
    have HW1 := Lib.hid ((HBW.out.block (w.heap.size + 1) (by omega)).trans HX1.out)
    have HZW := Lib.hid (show w.heap.size + 2 ≤ wc.heap.size by have := HBW.out.size; omega)
    have HCW := Lib.hid (fun W (h : Below w.heap.size w W) => HC.out.below h (Nat.le_refl _))
    clear HSX HBW HX0 HX1 hxs HNI HLP HNT HZ HZI HBK
    have HIP := Lib.hid (show (Tryd.prog.info? 70).map (·.size) = some (#[.slice ac ctx.length capc, .int .u64 (pos : Int), .int .u32 (epoch : Int)] : Array Value).size by kernel_rfl)
    have HL := Lib.hid (fun W (hW : Below wc.heap.size wc W) => And.intro ((hW.block w.heap.size (by have := HZW.out; omega)).trans HW0.out) ((hW.block (w.heap.size + 1) (by have := HZW.out; omega)).trans HW1.out))
    go_upto_region 6 with (first
      | (refine wpList_load_row rfl 32 (.tmp 3) rfl w.heap.size rfl _ _ _ _ HW0.out Tryd.underlying32 rfl HIK.out ?_)
      | (refine wpList_load_row rfl 70 (.tmp 4) rfl (w.heap.size + 1) rfl _ _ _ _ HW1.out Tryd.underlying70 rfl HIP.out ?_)
      | (go_at_call 80; (with_reducible refine Calls.mono (HST.out _ _ _ HPD.out (HCW.out _ HWW.out) HWW.out) ?_); rintro e w3 ⟨v3, rfl, ho, hb⟩; obtain ⟨a3, cap3, rfl⟩ := ho.sl.len; have HO3 := Lib.hid ho.sl; have HB3 := Lib.hid hb; have HR3 := Lib.hid (HL.out _ hb); have HW3 := Lib.hid (HWW.out.trans (hb.mono HWW.out.size)); clear ho hb))
    go_upto_region 7 with (first
      | (refine wpList_load_row rfl 32 (.tmp 3) rfl w.heap.size rfl _ _ _ _ HR3.out.1 Tryd.underlying32 rfl HIK.out ?_)
      | (refine wpList_load_row rfl 70 (.tmp 4) rfl (w.heap.size + 1) rfl _ _ _ _ HR3.out.2 Tryd.underlying70 rfl HIP.out ?_)
      | (go_at_call 81; (with_reducible refine Calls.mono (HTG.out _ _ _ HO3.out (HCW.out _ HW3.out) HW3.out) ?_); rintro e w4 ⟨rfl, hb⟩; have HO4 := Lib.hid (HO3.out.below hb (Nat.le_refl _)); have HB4 := Lib.hid (HB3.out.trans (hb.mono HB3.out.size)); clear hb)
      | (refine wpList_store_row rfl 32 (.tmp 11) (.tmp 37) rfl _ _ rfl rfl _ _ (heap_alloc_new _ _) HIT.out (by rw [bytes_size, HTL.out]; rfl) (bytes_one _) ?_; rw [World.setRow_alloc_new]))
    obtain ⟨Y, hY, hBY, hYs, hY0⟩ := alloc1 w4 (.cells (bytes T) 32)
    rw [hY]
    have hz4 := HB4.out.size
    have hby := HB4.out.trans (hBY.mono hz4)
    have HBY := Lib.hid (HWW.out.trans (hby.mono HWW.out.size))
    have HP2 := Lib.hid (fun W (hW : Below Y.heap.size Y W) => (show W.cell? ⟨w.heap.size + 1, 2, none⟩ = some (.int .u32 (epoch : Int)) from cell_of_row W (w.heap.size + 1) 2 _ _ _ (HL.out W (hby.trans (hW.mono hby.size))).2))
    have HYO := Lib.hid (fun W (hW : Below Y.heap.size Y W) => (show SlB W (.slice (some ⟨w4.heap.size, 0, none⟩) 32 32) T from sl_arr T ((hW.block _ (by omega)).trans hY0) HTL.out.symm (by rw [HTL.out]; omega)))
    have HOY := Lib.hid (HO4.out.below hBY (Nat.le_refl _))
    have hwr : IntKind.u64.wrap (epoch : Int) = (epoch : Int) := by rw [wrap_u64_mod]; omega
    clear hY hBY hYs hY0 hz4 hby HW0 HW1 HR3 HO3 HO4 HB3 HB4 HW3 HWW HPD HL
    -- REG B BEGIN
    refine wp_region_held_drew (S := fun W => Below Y.heap.size Y W) (by kernel_rfl) ((Below.refl Y.heap.size Y).drew) (fun hHeld => ?_)
    refine wpAnyH_take (i := 0) (v := ?v12) rfl (by kernel_rfl) (by kernel_rfl) (by kernel_rfl) (fun _ _ _ h => h) (Or.inl ⟨by rfl, ?y12⟩) (by assumption) ?r12
    case y12 =>
      intro w' hSw
      go_split_ands
      go_simp
      try with_reducible rfl
    try simp only [List.getElem_toArray, List.getElem_cons_zero, List.getElem_cons_succ, Act.put, List.setIfInBounds_toArray, List.set_cons_zero, List.set_cons_succ]
    refine wpAnyH_take (i := 1) (v := ?v13) rfl (by kernel_rfl) (by kernel_rfl) (by kernel_rfl) (fun _ _ _ h => h) (Or.inl ⟨by rfl, ?y13⟩) (by assumption) ?r13
    case y13 =>
      intro w' hSw
      have c := HP2.out w' hSw
      go_split_ands
      go_simp
      try with_reducible rfl
    try simp only [List.getElem_toArray, List.getElem_cons_zero, List.getElem_cons_succ, Act.put, List.setIfInBounds_toArray, List.set_cons_zero, List.set_cons_succ]
    refine wpAnyH_take (i := 2) (v := ?v14) rfl (by kernel_rfl) (by kernel_rfl) (by kernel_rfl) (fun _ _ _ h => h) (Or.inl ⟨by rfl, ?y14⟩) (by assumption) ?r14
    case y14 =>
      intro w' hSw
      go_split_ands
      go_simp
      try with_reducible rfl
    try simp only [List.getElem_toArray, List.getElem_cons_zero, List.getElem_cons_succ, Act.put, List.setIfInBounds_toArray, List.set_cons_zero, List.set_cons_succ]
    refine wpAnyH_take (i := 4) (v := ?v15) rfl (by kernel_rfl) (by kernel_rfl) (by kernel_rfl) (fun _ _ _ h => h) (Or.inl ⟨by rfl, ?y15⟩) (by assumption) ?r15
    case y15 =>
      intro w' hSw
      go_split_ands
      go_simp
      try with_reducible rfl
    try simp only [List.getElem_toArray, List.getElem_cons_zero, List.getElem_cons_succ, Act.put, List.setIfInBounds_toArray, List.set_cons_zero, List.set_cons_succ]
    refine wpAnyH_take (i := 5) (v := ?v16) rfl (by kernel_rfl) (by kernel_rfl) (by kernel_rfl) (fun _ _ _ h => h) (Or.inl ⟨by rfl, ?y16⟩) (by assumption) ?r16
    case y16 =>
      intro w' hSw
      go_split_ands
      go_simp
      try with_reducible rfl
    try simp only [List.getElem_toArray, List.getElem_cons_zero, List.getElem_cons_succ, Act.put, List.setIfInBounds_toArray, List.set_cons_zero, List.set_cons_succ]
    refine wpAnyH_ready (rs := [3]) (by kernel_rfl) (by simp) ?_
    refine AllReadyH.cons (i := 3) rfl (fun K hK => ?_) AllReadyH.nil
    go_simp
    go_at_call 79
    (with_reducible refine Calls.mono (HNE.out _) ?_)
    rintro e w_57 ⟨v_59, rfl, ho, hb⟩
    obtain ⟨a_60, c_61, rfl⟩ := ho.sl.len
    have HB_58 := Lib.hid (((Below.refl Y.heap.size Y).drew).trans (hb.mono ((Below.refl Y.heap.size Y).drew).size))
    have K_62 := Lib.hid (HOY.out.drew.below (hb) (Nat.le_refl _))
    have K_63 := Lib.hid ho.sl
    clear hb ho
    refine hK.out _ _ (HB_58.out) (fun hHeld' => ?_)
    clear hHeld hK K
    have hHeld := hHeld'
    clear hHeld'
    try simp only [List.getElem_toArray, List.getElem_cons_zero, List.getElem_cons_succ, Act.put, List.setIfInBounds_toArray, List.set_cons_zero, List.set_cons_succ]
    refine wpAnyH_ready (rs := [6]) (by kernel_rfl) (by simp) ?_
    refine AllReadyH.cons (i := 6) rfl (fun K hK => ?_) AllReadyH.nil
    obtain ⟨w_64, hw_64⟩ : ∃ W, (w_57.alloc (.cells #[.slice a_60 n4.length c_61, .slice a3 BD.length cap3, .slice (some ⟨w4.heap.size, 0, none⟩) 32 32] 22)) = W := ⟨_, rfl⟩
    go_simp
    try rw [hw_64]
    have hb : Below w_57.heap.size w_57 w_64 := by rw [← hw_64]; exact Below.alloc (Below.refl _ _) (Nat.le_refl _) _
    have K_67 := Lib.hid (K_62.out.below (hb) (Nat.le_refl _))
    have K_68 := Lib.hid (K_63.out.below (hb) (Nat.le_refl _))
    have H_65 := Lib.hid (show w_64.heap[w_57.heap.size]? = some (.cells #[.slice a_60 n4.length c_61, .slice a3 BD.length cap3, .slice (some ⟨w4.heap.size, 0, none⟩) 32 32] 22) by rw [← hw_64]; exact heap_alloc_new w_57 _)
    have HB_66 := Lib.hid ((HB_58.out).trans (hb.mono (HB_58.out).size))
    clear hw_64 hb
    refine hK.out _ _ (HB_66.out) (fun hHeld' => ?_)
    clear hHeld hK K
    have hHeld := hHeld'
    clear hHeld'
    try simp only [List.getElem_toArray, List.getElem_cons_zero, List.getElem_cons_succ, Act.put, List.setIfInBounds_toArray, List.set_cons_zero, List.set_cons_succ]
    refine wpAnyH_ready (rs := [7]) (by kernel_rfl) (by simp) ?_
    refine AllReadyH.cons (i := 7) rfl (fun K hK => ?_) AllReadyH.nil
    go_simp
    go_at_call 78
    (with_reducible refine Calls.mono (HLS.out _ _ _ _ _ _ _ H_65.out K_68.out K_67.out (HYO.out _ (HB_66.out))) ?_)
    rintro e w_69 ⟨v_71, rfl, ho, hb⟩
    obtain ⟨a_72, c_73, rfl⟩ := ho.sl.len
    have HB_70 := Lib.hid ((HB_66.out).trans (hb.mono (HB_66.out).size))
    have K_74 := Lib.hid (K_67.out.below (hb) (Nat.le_refl _))
    have K_75 := Lib.hid (K_68.out.below (hb) (Nat.le_refl _))
    have H_76 := Lib.hid (((hb).block _ (Array.getElem?_eq_some_iff.1 H_65.out).1).trans H_65.out)
    have K_77 := Lib.hid ho.sl
    have HOF := Lib.hid (ho.mono (HBY.out.trans ((HB_66.out).mono HBY.out.size)).size)
    clear hb ho
    refine hK.out _ _ (HB_70.out) (fun hHeld' => ?_)
    clear hHeld hK K
    have hHeld := hHeld'
    clear hHeld'
    try simp only [List.getElem_toArray, List.getElem_cons_zero, List.getElem_cons_succ, Act.put, List.setIfInBounds_toArray, List.set_cons_zero, List.set_cons_succ]
    refine wpAnyH_take (i := 8) (v := ?v17) rfl (by kernel_rfl) (by kernel_rfl) (by kernel_rfl) (fun _ _ _ h => h) (Or.inl ⟨by rfl, ?y17⟩) (by assumption) ?r17
    case y17 =>
      intro w' hSw
      go_split_ands
      go_simp
      try with_reducible rfl
    try simp only [List.getElem_toArray, List.getElem_cons_zero, List.getElem_cons_succ, Act.put, List.setIfInBounds_toArray, List.set_cons_zero, List.set_cons_succ]
    refine wpAnyH_take (i := 9) (v := ?v18) rfl (by kernel_rfl) (by kernel_rfl) (by kernel_rfl) (fun _ _ _ h => h) (Or.inl ⟨by rfl, ?y18⟩) (by assumption) ?r18
    case y18 =>
      intro w' hSw
      go_split_ands
      go_simp
      try with_reducible rfl
    try simp only [List.getElem_toArray, List.getElem_cons_zero, List.getElem_cons_succ, Act.put, List.setIfInBounds_toArray, List.set_cons_zero, List.set_cons_succ]
    refine wpAnyH_done (by kernel_rfl) ?_ _
    go_wp2
    refine bodyPost_ret (v := .tuple #[.slice a_72 _ c_73, .int .i64 0]) (by simp [results, Tryd.results53, go_sem]) rfl ⟨_, rfl, HOF.out, HBY.out.trans ((HB_70.out).mono HBY.out.size)⟩
    -- REG B END
end Go.Proofs.YtnoilogepkelaaaDoor
namespace Go.Proofs.YtnoilogepkelaaaDoor
set_option linter.unusedVariables false
set_option linter.unusedSimpArgs false
open Go Go.RowKit

/-- A padded text's text comes back, or false. -/
def UnpadR (w : World) (p : List (BitVec 8)) (e : Ending) (w' : World) : Prop :=
  (∃ t v', Sea.unpad p = some t ∧ e = .returned (.tuple #[v', .bool true]) ∧ OwnB 5 w.heap.size w' v' t ∧ Below w.heap.size w w') ∨
  (Sea.unpad p = none ∧ e = .returned (.tuple #[.slice none 0 0, .bool false]) ∧ Below w.heap.size w w')
theorem unpad_none {p : List (BitVec 8)} (h : ¬ (Num.val4 p + 4 ≤ p.length ∧ Sea.bucket (Num.val4 p) = p.length)) : Sea.unpad p = none := by
  unfold Sea.unpad
  rw [if_neg (fun hh => h ⟨hh.1, hh.2.1⟩)]
theorem unpad_nonzero {p : List (BitVec 8)} (j : Nat) (hj : 4 + Num.val4 p + j < p.length) (h : p.getD (4 + Num.val4 p + j) 0 ≠ 0) : Sea.unpad p = none := by
  unfold Sea.unpad
  rw [if_neg]
  rintro ⟨_, _, hz⟩
  have := congrArg (fun l => l.getD j 0) hz
  simp only [List.getD, List.getElem?_drop, List.getElem?_replicate] at this
  rw [if_pos (by omega)] at this
  exact h (by simpa [List.getD] using this)
theorem unpad_zeros {p : List (BitVec 8)} (h1 : Num.val4 p + 4 ≤ p.length) (h2 : Sea.bucket (Num.val4 p) = p.length) (h : ∀ j, j < p.length - (4 + Num.val4 p) → p.getD (4 + Num.val4 p + j) 0 = 0) : Sea.unpad p = some ((p.drop 4).take (Num.val4 p)) := by
  unfold Sea.unpad
  rw [if_pos]
  refine ⟨h1, h2, Cha.ext_getD (by simp; omega) fun j hj => ?_⟩
  rw [List.length_drop] at hj
  rw [Cha.getD_drop, h j hj]
  simp only [List.getD, List.getElem?_replicate]
  split <;> rfl

set_option maxRecDepth 100000 in
set_option maxHeartbeats 2000000 in
theorem unpad_any (p : List (BitVec 8)) (v : Value) (w : World) (hs : SlB w v p) (hl : 64 ≤ p.length) (hm : p.length ≤ 131072) :
    Calls Tryd.prog 83 #[v] w (UnpadR w p) := by
  obtain ⟨b, off, cap, rfl, hcap, hb⟩ := hs.open_ p.length rfl (by omega)
  have hcm := hs.bounds.2.2
  unfold maxLen at hcm
  have HV := Lib.hid (value_any _ p w hs (by omega))
  have hv4 := Num.val4_lt p
  have HBN := Lib.hid (fun W => bucket_nat (Num.val4 p) (by omega) W)
  have HNO := Lib.hid (fun h => unpad_none (p := p) h)
  have HNZ := Lib.hid (fun j hj h => unpad_nonzero (p := p) j hj h)
  have HYS := Lib.hid (fun h1 h2 h => unpad_zeros (p := p) h1 h2 h)
  have HS := Lib.hid hs
  obtain ⟨m, hmv⟩ : ∃ m, Num.val4 p = m := ⟨_, rfl⟩
  rw [hmv] at HV HBN HNO HNZ HYS hv4
  have hm0 : (m : Int) < 4294967296 := by omega
  obtain ⟨n, hn⟩ : ∃ n, p.length = n := ⟨_, rfl⟩
  rw [hn] at HV HNO HNZ HYS HS hl hm hcap ⊢
  have HN := Lib.hid hn
  obtain ⟨Q, hQ⟩ : ∃ Q, Sea.bucket m = Q := ⟨_, rfl⟩
  rw [hQ] at HBN HNO HYS
  have hQl : Q ≤ 131072 := by rw [← hQ]; exact Sea.bucket_le m
  have HCM := Lib.hid hcm
  clear hs hmv hn hQ hcm hv4
  by_cases hc : m + 4 ≤ n ∧ Q = n
  · obtain ⟨hc1, rfl⟩ := hc
    have hi1 : (m : Int) + 4 ≤ (Q : Int) := by omega
    have HC1 := Lib.hid hc1
    have HCL := Lib.hid (fun W (hW : Below w.heap.size w W) => clone_any _ _ W (((HS.out.below hW (Nat.le_refl _)).drop 4 (by omega)).take m (by omega)) (by have := HN.out; simp; omega))
    clear hc1
    go_enter Tryd.func83, Tryd.ntmps83
    go_upto_region 1 with fail
    go_upto_region 2 with (first
      | (go_at_call 82; (with_reducible refine Calls.mono HV.out ?_); rintro e w1 ⟨rfl, hb1⟩; have HB1 := Lib.hid hb1; clear hb1)
      | (go_at_call 49; (with_reducible refine Calls.mono (HBN.out _) ?_); rintro e w' ⟨rfl, rfl⟩))
    clear hm0
    go_upto_region 4 with (first
      | (go_at_call 49; (with_reducible refine Calls.mono (HBN.out _) ?_); rintro e w' ⟨rfl, rfl⟩))
    have HB1' := HB1.out
    have HSB := Lib.hid (HS.out.below HB1.out (Nat.le_refl _))
    have HCW := Lib.hid (HCL.out w1 HB1.out)
    clear HB1' HV HBN HNO HCL HS
    have hc4 : ¬ cap - 4 = 0 := by omega
    by_cases hz : cap = 4 + m
    · have HU := Lib.hid (HYS.out HC1.out (by first | trivial | rfl) (fun j hj => absurd hj (by omega)))
      have hz2 : cap - (4 + m) = 0 := by omega
      have hz3 : Q - (4 + m) = 0 := by omega
      have hz4 : (4 : Int) + m ≤ Q := by omega
      clear hi1 hz
      go_wp2_with fail
      go_loop [27] (fun s27 => s27 = .int .i64 0) (fun _ => 0)
      case atStart => exact rfl
      case round =>
        obtain rfl := hrel
        go_wp2_with (go_at_call 95; (with_reducible refine Calls.mono HCW.out ?_); rintro e w3 ⟨v3, rfl, ho, hb⟩; have HO3 := Lib.hid (ho.mono HB1.out.size); have HB3 := Lib.hid (HB1.out.trans (hb.mono HB1.out.size)); clear ho hb)
        refine bodyPost_ret (v := .tuple #[v3, .bool true]) (by simp [results, Tryd.results83, go_sem]) rfl (Or.inl ⟨_, _, HU.out, rfl, HO3.out, HB3.out⟩)
    · have hz1 : ¬ (cap : Int) = 4 + (m : Int) := by omega
      have hz2 : ¬ cap - (4 + m) = 0 := by omega
      have HCE := Lib.hid (fun i (hi : i < Q - (4 + m)) => (show w1.cell? ⟨b, off + (4 + m) + i, none⟩ = some (byteV (p.getD (4 + m + i) 0)) by
        rw [show off + (4 + m) + i = off + (4 + m + i) by omega]
        exact HSB.out.cell (4 + m + i) (by have := HN.out; omega)))
      have HL := Lib.hid (show ((Q - (4 + m) : Nat) : Int) = (Q : Int) - 4 - m by omega)
      obtain ⟨L, hL⟩ : ∃ L, Q - (4 + m) = L := ⟨_, rfl⟩
      have HLL := Lib.hid hL
      have hLs : L ≤ 131072 := by omega
      go_upto_block 0 with fail
      rw [hL]
      rw [hL] at HCE HL HYS
      clear hL hi1
      go_wp2_with fail
      go_loop [27] (fun s27 => ∃ i : Nat, i ≤ L ∧ s27 = .int .i64 i ∧ Hid (∀ j, j < i → p.getD (4 + m + j) 0 = 0)) (fun s27 => L - (intOf s27).toNat)
      case atStart => exact ⟨0, by omega, rfl, Lib.hid (fun j hj => absurd hj (by omega))⟩
      case round =>
        obtain ⟨i, hi, rfl, HZ⟩ := hrel
        by_cases hlt : i < L
        · have hce := HCE.out i hlt
          have HNI := Lib.hid (HNZ.out i (by have := HLL.out; omega))
          have HZN := Lib.hid (fun (h : p.getD (4 + m + i) 0 = 0) j (hj : j < i + 1) => (show p.getD (4 + m + j) 0 = 0 by
            by_cases e : j = i
            · subst e; exact h
            · exact HZ.out j (by omega)))
          obtain ⟨y, hy⟩ : ∃ y, p.getD (4 + m + i) 0 = y := ⟨_, rfl⟩
          rw [hy] at hce HNI HZN
          unfold byteV at hce
          clear hy HZ
          by_cases h0 : y = 0
          · subst h0
            have HZI := Lib.hid (HZN.out rfl)
            rw [show bv (0 : BitVec 8) = 0 from rfl] at hce
            clear HZN HNI
            go_wp2
            go_round
            case rel => exact ⟨i + 1, by omega, by go_num, HZI⟩
            case measure => simp [intOf]; omega
          · have HU := Lib.hid (HNI.out h0)
            have hne : (bv y != 0) = true := by
              simp only [bne_iff_ne, ne_eq]
              intro h
              exact h0 (bv_inj (h.trans rfl))
            clear h0 HZN HNI
            go_wp2
            refine bodyPost_ret (v := .tuple #[.slice none 0 0, .bool false]) (by simp [results, Tryd.results83, go_sem]) rfl (Or.inr ⟨HU.out, rfl, HB1.out⟩)
        · obtain rfl : i = L := by omega
          have HU := Lib.hid (HYS.out HC1.out (by first | trivial | rfl) HZ.out)
          clear HYS HZ HCE HNZ
          go_wp2_with (go_at_call 95; (with_reducible refine Calls.mono HCW.out ?_); rintro e w3 ⟨v3, rfl, ho, hb⟩; have HO3 := Lib.hid (ho.mono HB1.out.size); have HB3 := Lib.hid (HB1.out.trans (hb.mono HB1.out.size)); clear ho hb)
          refine bodyPost_ret (v := .tuple #[v3, .bool true]) (by simp [results, Tryd.results83, go_sem]) rfl (Or.inl ⟨_, _, HU.out, rfl, HO3.out, HB3.out⟩)
  · have HU := Lib.hid (HNO.out hc)
    by_cases h1 : (m : Int) + 4 ≤ (n : Int)
    · have hq : ((Q : Int) != (n : Int)) = true := by simp; omega
      go_enter Tryd.func83, Tryd.ntmps83
      go_upto_region 2 with (first
        | (go_at_call 82; (with_reducible refine Calls.mono HV.out ?_); rintro e w1 ⟨rfl, hb1⟩; have HB1 := Lib.hid hb1; clear hb1))
      clear hm0
      go_wp2_with (go_at_call 49; (with_reducible refine Calls.mono (HBN.out _) ?_); rintro e w' ⟨rfl, rfl⟩)
      refine bodyPost_ret (v := .tuple #[.slice none 0 0, .bool false]) (by simp [results, Tryd.results83, go_sem]) rfl (Or.inr ⟨HU.out, rfl, HB1.out⟩)
    · have h1' : (n : Int) < (m : Int) + 4 := by omega
      go_enter Tryd.func83, Tryd.ntmps83
      go_upto_region 2 with (first
        | (go_at_call 82; (with_reducible refine Calls.mono HV.out ?_); rintro e w1 ⟨rfl, hb1⟩; have HB1 := Lib.hid hb1; clear hb1))
      clear hm0
      go_wp2_with (go_at_call 49; (with_reducible refine Calls.mono (HBN.out _) ?_); rintro e w' ⟨rfl, rfl⟩)
      refine bodyPost_ret (v := .tuple #[.slice none 0 0, .bool false]) (by simp [results, Tryd.results83, go_sem]) rfl (Or.inr ⟨HU.out, rfl, HB1.out⟩)
end Go.Proofs.YtnoilogepkelaaaDoor
namespace Go.Proofs.YtnoilogepkelaaaDoor
set_option linter.unusedVariables false
set_option linter.unusedSimpArgs false
open Go Go.RowKit

theorem unpad_yes {p t : List (BitVec 8)} (h : Sea.unpad p = some t) (v : Value) (w : World) (hs : SlB w v p) (hl : 64 ≤ p.length) (hm : p.length ≤ 131072) :
    Calls Tryd.prog 83 #[v] w fun e w' => ∃ v', e = .returned (.tuple #[v', .bool true]) ∧ OwnB 5 w.heap.size w' v' t ∧ Below w.heap.size w w' := by
  refine (unpad_any p v w hs hl hm).mono ?_
  rintro e w' (⟨t', v', h1, h2, h3, h4⟩ | ⟨h1, _⟩)
  · rw [h] at h1
    obtain rfl : t = t' := by simpa using h1
    exact ⟨v', h2, h3, h4⟩
  · rw [h] at h1; cases h1
theorem unpad_no {p : List (BitVec 8)} (h : Sea.unpad p = none) (v : Value) (w : World) (hs : SlB w v p) (hl : 64 ≤ p.length) (hm : p.length ≤ 131072) :
    Calls Tryd.prog 83 #[v] w fun e w' => e = .returned (.tuple #[.slice none 0 0, .bool false]) ∧ Below w.heap.size w w' := by
  refine (unpad_any p v w hs hl hm).mono ?_
  rintro e w' (⟨t', v', h1, h2, h3, h4⟩ | ⟨_, h2, h3⟩)
  · rw [h] at h1; cases h1
  · exact ⟨h2, h3⟩
/-- What Open comes to. -/
def OpenR (w : World) (o : Option (List (BitVec 8) × Nat)) (e : Ending) (w' : World) : Prop :=
  (∃ t ep v', o = some (t, ep) ∧ e = .returned (.tuple #[v', .int .u32 (ep : Int), .int .i64 0]) ∧ OwnB 5 w.heap.size w' v' t ∧ Below w.heap.size w w') ∨
  (o = none ∧ e = .returned (.tuple #[.slice none 0 0, .int .u32 0, .int .i64 9]) ∧ Below w.heap.size w w')

set_option maxRecDepth 100000 in
set_option maxHeartbeats 1000000 in
theorem open_short (kb : Array Value) (pl : Array Value) (v : Value) (s : List (BitVec 8)) (w : World) (hs : SlB w v s) (hlen : s.length ≤ 1000000) (hl : s.length < 100 ∨ Sea.bucket (s.length - 40) ≠ s.length - 36) :
    Calls Tryd.prog 55 #[.agg kb, .agg pl, v] w fun e w' => e = .returned (.tuple #[.slice none 0 0, .int .u32 0, .int .i64 9]) ∧ Below w.heap.size w w' := by
  obtain ⟨a, cap, rfl⟩ := hs.len
  have HBK := Lib.hid (fun W => bucket_nat (s.length - 40) (by omega) W)
  obtain ⟨B, hB⟩ : ∃ B, Sea.bucket (s.length - 40) = B := ⟨_, rfl⟩
  rw [hB] at hl HBK
  have hBl : B ≤ 131072 := by rw [← hB]; exact Sea.bucket_le _
  obtain ⟨n, hn⟩ : ∃ n, s.length = n := ⟨_, rfl⟩
  rw [hn] at hl HBK hlen ⊢
  clear hs hB hn
  by_cases h1 : n < 100
  · have HNN := Lib.hid h1
    clear hl
    go_enter Tryd.func55, Tryd.ntmps55
    go_upto_region 1 with fail
    obtain ⟨X, hX, hBX, hXs, hX0, hX1⟩ := alloc2 w (.cells kb 32) (.cells pl 70)
    rw [hX]
    have HBX := Lib.hid hBX
    clear hX hBX hX0 hX1 hXs
    go_cut [9] (fun s9 wx => (∃ t : Int, s9 = .int .i64 t ∧ t < 64 ∧ -100 ≤ t) ∧ wx = X)
    case first =>
      go_wp2
      go_meet
      case rel => exact ⟨⟨_, rfl, by omega, by omega⟩, rfl⟩
    case rest =>
      obtain ⟨⟨t, rfl, ht, ht0⟩, rfl⟩ := hcut
      go_wp2
      refine bodyPost_ret (v := .tuple #[.slice none 0 0, .int .u32 0, .int .i64 9]) (by simp [results, Tryd.results55, go_sem]) rfl ⟨rfl, HBX.out⟩
  · have hne : B ≠ n - 36 := by omega
    obtain ⟨M, rfl⟩ : ∃ M, n = M + 40 := ⟨n - 40, by omega⟩
    rw [show M + 40 - 40 = M by omega] at HBK
    have hq : ((B : Int) != (M : Int) + 4) = true := by simp only [bne_iff_ne, ne_eq]; omega
    have hM : 60 ≤ (M : Int) := by omega
    have HM := Lib.hid h1
    have hM2 : (64 : Int) ≤ (M : Int) + 4 := by omega
    have hM3 : (M : Int) ≤ 1000000 := by omega
    clear hl h1 hne
    go_enter Tryd.func55, Tryd.ntmps55
    go_upto_region 1 with fail
    obtain ⟨X, hX, hBX, hXs, hX0, hX1⟩ := alloc2 w (.cells kb 32) (.cells pl 70)
    rw [hX]
    have HBX := Lib.hid hBX
    clear hX hBX hX0 hX1 hXs
    go_cut [9] (fun s9 wx => s9 = .int .i64 ((M : Int) + 4) ∧ wx = X)
    case first =>
      go_wp2
      go_meet
      case rel => exact ⟨by congr 1; omega, rfl⟩
    case rest =>
      obtain ⟨rfl, rfl⟩ := hcut
      go_wp2_with (go_at_call 49; (with_reducible refine Calls.mono (HBK.out _) ?_); rintro e w' ⟨rfl, rfl⟩)
      refine bodyPost_ret (v := .tuple #[.slice none 0 0, .int .u32 0, .int .i64 9]) (by simp [results, Tryd.results55, go_sem]) rfl ⟨rfl, HBX.out⟩
end Go.Proofs.YtnoilogepkelaaaDoor
namespace Go.Proofs.YtnoilogepkelaaaDoor
set_option linter.unusedVariables false
set_option linter.unusedSimpArgs false
open Go Go.RowKit

set_option maxRecDepth 100000 in
set_option maxHeartbeats 8000000 in
theorem open_core (key ctx : List (BitVec 8)) (hk : key.length = 32) (hcl : ctx.length ≤ 1000000) (vc : Value) (pos ep0 : Nat) (hp : pos < 18446744073709551616) (s : List (BitVec 8)) (v : Value) (w : World) (hs : SlB w v s) (hcs : SlB w vc ctx) (hl : 100 ≤ s.length) (hbk : Sea.bucket (s.length - 40) = s.length - 36) (hG : Glob w) :
    Calls Tryd.prog 55 #[.agg (bytes key), .agg #[vc, .int .u64 (pos : Int), .int .u32 (ep0 : Int)], v] w (OpenR w (Sea.open_ key ctx pos s)) := by
  have hgz := hG.size
  have hble := Sea.bucket_le (s.length - 40)
  obtain ⟨ac, capc, rfl⟩ := hcs.len
  obtain ⟨b, off, cap, rfl, hcap, hb⟩ := hs.open_ s.length rfl (by omega)
  have hcm := hs.bounds.2.2
  have hep := Num.val4_lt s
  have HV := Lib.hid (fun W (h : Below w.heap.size w W) => value_any _ s W (hs.below h (Nat.le_refl _)) (by omega))
  obtain ⟨ep, hepe⟩ : ∃ ep, Num.val4 s = ep := ⟨_, rfl⟩
  obtain ⟨BD, hBD⟩ : ∃ BD, (s.drop 4).take (s.length - 36) = BD := ⟨_, rfl⟩
  obtain ⟨TL, hTL⟩ : ∃ TL, s.drop (s.length - 32) = TL := ⟨_, rfl⟩
  have hBDl : BD.length = s.length - 36 := by rw [← hBD]; simp; omega
  have hTLl : TL.length = 32 := by rw [← hTL]; simp; omega
  have HO := Lib.hid (show Sea.open_ key ctx pos s = if Sea.tag_ key ctx pos ep BD ≠ TL then none else (Sea.unpad (Sea.stream key ctx pos ep BD)).map (fun t => (t, ep)) by
    unfold Sea.open_
    rw [if_neg (by omega), hepe, hBD, hTL])
  rw [hepe] at HV hep
  have HTG := Lib.hid (fun W u vc' (h : SlB W u BD) (hc : SlB W vc' ctx) (hB : Below w.heap.size w W) => stag_any key ctx hk hcl vc' pos ep hp hep BD u W h hc (by omega) (hG.below hB hgz))
  have HST := Lib.hid (fun W u vc' (h : SlB W u BD) (hc : SlB W vc' ctx) (hB : Below w.heap.size w W) => sstream_any key ctx hk hcl vc' pos ep hp hep BD u W h hc (by omega) (hG.below hB hgz))
  have hpl := Sea.stream_length key ctx pos ep BD
  have htl := Sea.tag_length key ctx pos ep BD
  have HBK := Lib.hid (fun W => bucket_nat (s.length - 40) (by omega) W)
  rw [hbk] at HBK
  have HUY := Lib.hid (fun t (h : Sea.unpad (Sea.stream key ctx pos ep BD) = some t) v W hs => unpad_yes h v W hs (by omega) (by omega))
  have HUN := Lib.hid (fun (h : Sea.unpad (Sea.stream key ctx pos ep BD) = none) v W hs => unpad_no h v W hs (by omega) (by omega))
  have HEY := Lib.hid (fun (h : Sea.tag_ key ctx pos ep BD = TL) v0 v1 W (h0 : SlB W v0 (Sea.tag_ key ctx pos ep BD)) (h1 : SlB W v1 TL) => equal_yes (Sea.tag_ key ctx pos ep BD) v0 v1 W h0 (by rw [h]; exact h1) (by omega))
  have HEN := Lib.hid (fun (h : Sea.tag_ key ctx pos ep BD ≠ TL) v0 v1 W (h0 : SlB W v0 (Sea.tag_ key ctx pos ep BD)) (h1 : SlB W v1 TL) => equal_no (Sea.tag_ key ctx pos ep BD) TL h v0 v1 W h0 h1 (by omega))
  have HIK := Lib.hid (show (Tryd.prog.info? 32).map (·.size) = some (bytes key).size by rw [bytes_size, hk]; kernel_rfl)
  have HIT := Lib.hid (show (Tryd.prog.info? 32).map (·.size) = some (bytes (Sea.tag_ key ctx pos ep BD)).size by rw [bytes_size, htl]; kernel_rfl)
  obtain ⟨T, hT⟩ : ∃ T, Sea.tag_ key ctx pos ep BD = T := ⟨_, rfl⟩
  rw [hT] at HTG HEY HEN HIT HO htl
  obtain ⟨PD, hPD⟩ : ∃ PD, Sea.stream key ctx pos ep BD = PD := ⟨_, rfl⟩
  rw [hPD] at HST HUY HUN HO hpl
  obtain ⟨kb, hkb⟩ : ∃ kb, bytes key = kb := ⟨_, rfl⟩
  rw [hkb] at HIK HTG HST ⊢
  obtain ⟨OR, hOR⟩ : ∃ OR, Sea.open_ key ctx pos s = OR := ⟨_, rfl⟩
  rw [hOR] at HO ⊢
  have HTL := Lib.hid htl
  have HC := Lib.hid (fun W (h : Below w.heap.size w W) => hcs.below h (Nat.le_refl _))
  obtain ⟨M, hM⟩ : ∃ M, s.length = M + 40 := ⟨s.length - 40, by omega⟩
  have hM3 : (M : Int) ≤ 131068 := by omega
  have HBS := Lib.hid (fun W (h : Below w.heap.size w W) => (show SlB W (.slice (some ⟨b, off + 4, none⟩) (M + 4) (cap - 4)) BD by
    have h1 := ((hs.below h (Nat.le_refl _)).drop 4 (by omega)).take (s.length - 36) (by omega)
    rw [hBD] at h1
    rwa [show s.length - 36 = M + 4 by omega] at h1))
  have HTS := Lib.hid (fun W (h : Below w.heap.size w W) => (show SlB W (.slice (some ⟨b, off + (4 + (M + 4)), none⟩) (M + 40 - (4 + (M + 4))) (cap - (4 + (M + 4)))) TL by
    have h1 := (hs.below h (Nat.le_refl _)).drop (s.length - 32) (by omega)
    rw [hTL] at h1
    rwa [hM, show M + 40 - 32 = 4 + (M + 4) by omega] at h1))
  rw [hM] at HV hcap hble ⊢
  rw [show s.length - 40 = M by omega, show s.length - 36 = M + 4 by omega] at HBK
  have hM2 : (64 : Int) ≤ (M : Int) + 4 := by omega
  have hq : (((M + 4 : Nat) : Int) != (M : Int) + 4) = false := by simp
  have hcl1 : (M : Int) + 40 ≤ (cap : Int) := by omega
  have hc1 : ¬ cap - 4 = 0 := by omega
  have hc2 : ¬ cap - (4 + (M + 4)) = 0 := by omega
  have HWI := Lib.hid (show IntKind.i64.wrap (4 + ((M : Int) + 4)) = 4 + ((M : Int) + 4) ∧ (4 + ((M : Int) + 4)).toNat = 4 + (M + 4) ∧ 4 + ((M : Int) + 4) ≤ (M : Int) + 40 ∧ ¬ cap = 4 + (M + 4) ∧ 0 ≤ 4 + ((M : Int) + 4) by
    refine ⟨?_, by omega, by omega, by omega, by omega⟩
    rw [IntKind.wrap_i64]; omega)
  have HEP := Lib.hid hep
  clear hk hcl hs hcs hl hbk hG hgz hble hcm hep hepe hBD hTL hBDl hTLl hpl htl hT hPD hkb hOR hM
  go_enter Tryd.func55, Tryd.ntmps55
  go_upto_region 1 with fail
  obtain ⟨X, hX, hBX, hXs, hX0, hX1⟩ := alloc2 w (.cells kb 32) (.cells #[.slice ac ctx.length capc, .int .u64 (pos : Int), .int .u32 (ep0 : Int)] 70)
  rw [hX]
  have HBX := Lib.hid hBX
  have HX0 := Lib.hid hX0
  have HX1 := Lib.hid hX1
  have HXS := Lib.hid hXs
  clear hX hBX hX0 hX1 hXs
  go_cut [9] (fun s9 wx => s9 = .int .i64 ((M : Int) + 4) ∧ wx = X)
  case first =>
    go_wp2
    go_meet
    case rel => exact ⟨by congr 1; omega, rfl⟩
  case rest =>
    obtain ⟨rfl, rfl⟩ := hcut
    go_upto_region 4 with (go_at_call 49; (with_reducible refine Calls.mono (HBK.out _) ?_); rintro e w' ⟨rfl, rfl⟩)
    go_upto_region 5 with (go_at_call 82; (with_reducible refine Calls.mono (HV.out _ HBX.out) ?_); rintro e w1 ⟨rfl, hb1⟩; have HB1 := Lib.hid hb1; have HR1 := Lib.hid ((hb1.block (w.heap.size + 1) (by have := HXS.out; omega)).trans HX1.out); have c2 := cell_of_row w1 (w.heap.size + 1) 2 _ _ _ HR1.out; have f2 := frozen_of_row w1 (w.heap.size + 1) 2 _ _ HR1.out; clear hb1)
    obtain ⟨Z, hZ⟩ : ∃ Z, w1.setCell ⟨w.heap.size + 1, 2, none⟩ (.int .u32 (ep : Int)) = Z := ⟨_, rfl⟩
    rw [hZ]
    have hxs := HXS.out
    have hz1 : Z.heap[w.heap.size + 1]? = some (.cells #[.slice ac ctx.length capc, .int .u64 (pos : Int), .int .u32 (ep : Int)] 70 (0, 0)) := by
      rw [← hZ]
      exact heap_setCell_same w1 (w.heap.size + 1) 2 _ _ _ HR1.out
    have hz0 : Z.heap[w.heap.size]? = some (.cells kb 32 (0, 0)) := by
      rw [← hZ, heap_setCell_other _ _ _ _ (by simp)]
      exact (HB1.out.block w.heap.size (by omega)).trans HX0.out
    have hbz : Below w.heap.size w Z := by rw [← hZ]; exact (HBX.out.trans (HB1.out.mono HBX.out.size)).setCell (by simp) _
    have hzs : w.heap.size + 2 ≤ Z.heap.size := by
      have := HB1.out.size
      rw [← hZ]
      simp [World.setCell]
      omega
    have HBZ := Lib.hid hbz
    have HZ0 := Lib.hid hz0
    have HZ1 := Lib.hid hz1
    have HZS := Lib.hid hzs
    have HL := Lib.hid (fun W (hW : Below Z.heap.size Z W) => And.intro ((hW.block w.heap.size (by omega)).trans hz0) ((hW.block (w.heap.size + 1) (by omega)).trans hz1))
    have HIP := Lib.hid (show (Tryd.prog.info? 70).map (·.size) = some (#[.slice ac ctx.length capc, .int .u64 (pos : Int), .int .u32 (ep : Int)] : Array Value).size by kernel_rfl)
    clear hZ hxs hz1 hz0 hbz hzs HB1 HR1 c2 f2 HX0 HX1 HXS HBX HV HBK
    go_upto_region 6 with fail
    rw [show 4 + (M + 4) - 4 = M + 4 by omega]
    go_upto_region 7 with (first
      | (refine wpList_load_row rfl 32 (.tmp 3) rfl w.heap.size rfl _ _ _ _ HZ0.out Tryd.underlying32 rfl HIK.out ?_)
      | (refine wpList_load_row rfl 70 (.tmp 4) rfl (w.heap.size + 1) rfl _ _ _ _ HZ1.out Tryd.underlying70 rfl HIP.out ?_)
      | (go_at_call 81; (with_reducible refine Calls.mono (HTG.out _ _ _ (HBS.out _ HBZ.out) (HC.out _ HBZ.out) HBZ.out) ?_); rintro e w4 ⟨rfl, hb⟩; have HB4 := Lib.hid hb; clear hb)
      | (refine wpList_store_row rfl 32 (.tmp 11) (.tmp 37) rfl _ _ rfl rfl _ _ (heap_alloc_new _ _) HIT.out (by rw [bytes_size, HTL.out]; rfl) (bytes_one _) ?_; rw [World.setRow_alloc_new]))
    obtain ⟨Y, hY, hBY, hYs, hY0⟩ := alloc1 w4 (.cells (bytes T) 32)
    rw [hY]
    have hz4 := HB4.out.size
    have hzy := HB4.out.trans (hBY.mono hz4)
    have HZY := Lib.hid hzy
    have HBY := Lib.hid (HBZ.out.trans (hzy.mono HBZ.out.size))
    have HYO := Lib.hid (fun W (hW : Below Y.heap.size Y W) => (show SlB W (.slice (some ⟨w4.heap.size, 0, none⟩) 32 32) T from sl_arr T ((hW.block _ (by omega)).trans hY0) HTL.out.symm (by rw [HTL.out]; omega)))
    have HTY := Lib.hid (fun W (hW : Below Y.heap.size Y W) => HTS.out W (HBY.out.trans (hW.mono HBY.out.size)))
    have HLY := Lib.hid (fun W (hW : Below Y.heap.size Y W) => HL.out W (hzy.trans (hW.mono hzy.size)))
    clear hY hBY hYs hY0 hz4 hzy HZ0 HZ1 HTG HTS HB4
    have ⟨hw1, hw2, hw3, hw4, hw5⟩ := HWI.out
    by_cases ht : T = TL
    · have HQ := Lib.hid (fun v0 v1 W h0 h1 => HEY.out ht v0 v1 W h0 h1)
      have HO2 := Lib.hid (show OR = (Sea.unpad PD).map (fun t => (t, ep)) by rw [HO.out, if_neg (by simp [ht])])
      clear ht HEY HEN HO
      cases hu : Sea.unpad PD with
      | none =>
        rw [hu] at HO2
        have HON := Lib.hid (show OR = none from HO2.out)
        have HUQ := Lib.hid (fun v W hs => HUN.out hu v W hs)
        clear hu HUY HUN HO2
        -- REG A BEGIN
        refine wp_region_held_drew (S := fun W => Below Y.heap.size Y W) (by kernel_rfl) ((Below.refl Y.heap.size Y).drew) (fun hHeld => ?_)
        refine wpAnyH_take (i := 0) (v := ?v1) rfl (by kernel_rfl) (by kernel_rfl) (by kernel_rfl) (fun _ _ _ h => h) (Or.inl ⟨by rfl, ?y1⟩) (by assumption) ?r1
        case y1 =>
          intro w' hSw
          go_split_ands
          go_simp
          try with_reducible rfl
        try simp only [List.getElem_toArray, List.getElem_cons_zero, List.getElem_cons_succ, Act.put, List.setIfInBounds_toArray, List.set_cons_zero, List.set_cons_succ]
        refine wpAnyH_take (i := 1) (v := ?v2) rfl (by kernel_rfl) (by kernel_rfl) (by kernel_rfl) (fun _ _ _ h => h) (Or.inl ⟨by rfl, ?y2⟩) (by assumption) ?r2
        case y2 =>
          intro w' hSw
          go_split_ands
          go_simp
          try with_reducible rfl
        try simp only [List.getElem_toArray, List.getElem_cons_zero, List.getElem_cons_succ, Act.put, List.setIfInBounds_toArray, List.set_cons_zero, List.set_cons_succ]
        refine wpAnyH_take (i := 2) (v := ?v3) rfl (by kernel_rfl) (by kernel_rfl) (by kernel_rfl) (fun _ _ _ h => h) (Or.inl ⟨by rfl, ?y3⟩) (by assumption) ?r3
        case y3 =>
          intro w' hSw
          go_split_ands
          go_simp
          try with_reducible rfl
        try simp only [List.getElem_toArray, List.getElem_cons_zero, List.getElem_cons_succ, Act.put, List.setIfInBounds_toArray, List.set_cons_zero, List.set_cons_succ]
        refine wpAnyH_take (i := 3) (v := ?v4) rfl (by kernel_rfl) (by kernel_rfl) (by kernel_rfl) (fun _ _ _ h => h) (Or.inl ⟨by rfl, ?y4⟩) (by assumption) ?r4
        case y4 =>
          intro w' hSw
          go_split_ands
          go_simp
          try with_reducible rfl
        try simp only [List.getElem_toArray, List.getElem_cons_zero, List.getElem_cons_succ, Act.put, List.setIfInBounds_toArray, List.set_cons_zero, List.set_cons_succ]
        refine wpAnyH_take (i := 4) (v := ?v5) rfl (by kernel_rfl) (by kernel_rfl) (by kernel_rfl) (fun _ _ _ h => h) (Or.inl ⟨by rfl, ?y5⟩) (by assumption) ?r5
        case y5 =>
          intro w' hSw
          go_split_ands
          go_simp
          try with_reducible rfl
        try simp only [List.getElem_toArray, List.getElem_cons_zero, List.getElem_cons_succ, Act.put, List.setIfInBounds_toArray, List.set_cons_zero, List.set_cons_succ]
        refine wpAnyH_ready (rs := [5]) (by kernel_rfl) (by simp) ?_
        refine AllReadyH.cons (i := 5) rfl (fun K hK => ?_) AllReadyH.nil
        go_simp
        go_at_call 43
        (with_reducible refine Calls.mono (HQ.out _ _ _ (HYO.out _ ((Below.refl Y.heap.size Y).drew)) (HTY.out _ ((Below.refl Y.heap.size Y).drew))) ?_)
        rintro e w_1 ⟨rfl, hb⟩
        have HB_2 := Lib.hid (((Below.refl Y.heap.size Y).drew).trans (hb.mono ((Below.refl Y.heap.size Y).drew).size))
        clear hb
        refine hK.out _ _ (HB_2.out) (fun hHeld' => ?_)
        clear hHeld hK K
        have hHeld := hHeld'
        clear hHeld'
        try simp only [List.getElem_toArray, List.getElem_cons_zero, List.getElem_cons_succ, Act.put, List.setIfInBounds_toArray, List.set_cons_zero, List.set_cons_succ]
        refine wpAnyH_take (i := 6) (v := ?v6) rfl (by kernel_rfl) (by kernel_rfl) (by kernel_rfl) (fun _ _ _ h => h) (Or.inl ⟨by rfl, ?y6⟩) (by assumption) ?r6
        case y6 =>
          intro w' hSw
          go_split_ands
          go_simp
          try with_reducible rfl
        try simp only [List.getElem_toArray, List.getElem_cons_zero, List.getElem_cons_succ, Act.put, List.setIfInBounds_toArray, List.set_cons_zero, List.set_cons_succ]
        refine wpAnyH_done (by kernel_rfl) ?_ _
        have HW7 := Lib.hid (HBY.out.trans ((HB_2.out).mono HBY.out.size))
        have HR7 := Lib.hid (HLY.out _ (HB_2.out))
        -- REG A END
        clear hw1 hw2 hw3 hw4 hw5
        go_wp2_with (first
          | (refine wpList_load_row rfl 32 (.tmp 3) rfl w.heap.size rfl _ _ _ _ HR7.out.1 Tryd.underlying32 rfl HIK.out ?_)
          | (refine wpList_load_row rfl 70 (.tmp 4) rfl (w.heap.size + 1) rfl _ _ _ _ HR7.out.2 Tryd.underlying70 rfl HIP.out ?_)
          | (go_at_call 80; (with_reducible refine Calls.mono (HST.out _ _ _ (HBS.out _ HW7.out) (HC.out _ HW7.out) HW7.out) ?_); rintro e w8 ⟨v8, rfl, ho, hb⟩; have HO8 := Lib.hid ho.sl; have HW8 := Lib.hid (HW7.out.trans (hb.mono HW7.out.size)); clear ho hb)
          | (go_at_call 83; (with_reducible refine Calls.mono (HUQ.out _ _ HO8.out) ?_); rintro e w9 ⟨rfl, hb⟩; have HW9 := Lib.hid (HW8.out.trans (hb.mono HW8.out.size)); clear hb))
        refine bodyPost_ret (v := .tuple #[.slice none 0 0, .int .u32 0, .int .i64 9]) (by simp [results, Tryd.results55, go_sem]) rfl (Or.inr ⟨HON.out, rfl, HW9.out⟩)
      | some t =>
        rw [hu] at HO2
        have HON := Lib.hid (show OR = some (t, ep) from HO2.out)
        have HUQ := Lib.hid (fun v W hs => HUY.out t hu v W hs)
        clear hu HUY HUN HO2
        -- REG B BEGIN
        refine wp_region_held_drew (S := fun W => Below Y.heap.size Y W) (by kernel_rfl) ((Below.refl Y.heap.size Y).drew) (fun hHeld => ?_)
        refine wpAnyH_take (i := 0) (v := ?v7) rfl (by kernel_rfl) (by kernel_rfl) (by kernel_rfl) (fun _ _ _ h => h) (Or.inl ⟨by rfl, ?y7⟩) (by assumption) ?r7
        case y7 =>
          intro w' hSw
          go_split_ands
          go_simp
          try with_reducible rfl
        try simp only [List.getElem_toArray, List.getElem_cons_zero, List.getElem_cons_succ, Act.put, List.setIfInBounds_toArray, List.set_cons_zero, List.set_cons_succ]
        refine wpAnyH_take (i := 1) (v := ?v8) rfl (by kernel_rfl) (by kernel_rfl) (by kernel_rfl) (fun _ _ _ h => h) (Or.inl ⟨by rfl, ?y8⟩) (by assumption) ?r8
        case y8 =>
          intro w' hSw
          go_split_ands
          go_simp
          try with_reducible rfl
        try simp only [List.getElem_toArray, List.getElem_cons_zero, List.getElem_cons_succ, Act.put, List.setIfInBounds_toArray, List.set_cons_zero, List.set_cons_succ]
        refine wpAnyH_take (i := 2) (v := ?v9) rfl (by kernel_rfl) (by kernel_rfl) (by kernel_rfl) (fun _ _ _ h => h) (Or.inl ⟨by rfl, ?y9⟩) (by assumption) ?r9
        case y9 =>
          intro w' hSw
          go_split_ands
          go_simp
          try with_reducible rfl
        try simp only [List.getElem_toArray, List.getElem_cons_zero, List.getElem_cons_succ, Act.put, List.setIfInBounds_toArray, List.set_cons_zero, List.set_cons_succ]
        refine wpAnyH_take (i := 3) (v := ?v10) rfl (by kernel_rfl) (by kernel_rfl) (by kernel_rfl) (fun _ _ _ h => h) (Or.inl ⟨by rfl, ?y10⟩) (by assumption) ?r10
        case y10 =>
          intro w' hSw
          go_split_ands
          go_simp
          try with_reducible rfl
        try simp only [List.getElem_toArray, List.getElem_cons_zero, List.getElem_cons_succ, Act.put, List.setIfInBounds_toArray, List.set_cons_zero, List.set_cons_succ]
        refine wpAnyH_take (i := 4) (v := ?v11) rfl (by kernel_rfl) (by kernel_rfl) (by kernel_rfl) (fun _ _ _ h => h) (Or.inl ⟨by rfl, ?y11⟩) (by assumption) ?r11
        case y11 =>
          intro w' hSw
          go_split_ands
          go_simp
          try with_reducible rfl
        try simp only [List.getElem_toArray, List.getElem_cons_zero, List.getElem_cons_succ, Act.put, List.setIfInBounds_toArray, List.set_cons_zero, List.set_cons_succ]
        refine wpAnyH_ready (rs := [5]) (by kernel_rfl) (by simp) ?_
        refine AllReadyH.cons (i := 5) rfl (fun K hK => ?_) AllReadyH.nil
        go_simp
        go_at_call 43
        (with_reducible refine Calls.mono (HQ.out _ _ _ (HYO.out _ ((Below.refl Y.heap.size Y).drew)) (HTY.out _ ((Below.refl Y.heap.size Y).drew))) ?_)
        rintro e w_3 ⟨rfl, hb⟩
        have HB_4 := Lib.hid (((Below.refl Y.heap.size Y).drew).trans (hb.mono ((Below.refl Y.heap.size Y).drew).size))
        clear hb
        refine hK.out _ _ (HB_4.out) (fun hHeld' => ?_)
        clear hHeld hK K
        have hHeld := hHeld'
        clear hHeld'
        try simp only [List.getElem_toArray, List.getElem_cons_zero, List.getElem_cons_succ, Act.put, List.setIfInBounds_toArray, List.set_cons_zero, List.set_cons_succ]
        refine wpAnyH_take (i := 6) (v := ?v12) rfl (by kernel_rfl) (by kernel_rfl) (by kernel_rfl) (fun _ _ _ h => h) (Or.inl ⟨by rfl, ?y12⟩) (by assumption) ?r12
        case y12 =>
          intro w' hSw
          go_split_ands
          go_simp
          try with_reducible rfl
        try simp only [List.getElem_toArray, List.getElem_cons_zero, List.getElem_cons_succ, Act.put, List.setIfInBounds_toArray, List.set_cons_zero, List.set_cons_succ]
        refine wpAnyH_done (by kernel_rfl) ?_ _
        have HW7 := Lib.hid (HBY.out.trans ((HB_4.out).mono HBY.out.size))
        have HR7 := Lib.hid (HLY.out _ (HB_4.out))
        -- REG B END
        clear hw1 hw2 hw3 hw4 hw5
        go_upto_region 12 with (first
          | (refine wpList_load_row rfl 32 (.tmp 3) rfl w.heap.size rfl _ _ _ _ HR7.out.1 Tryd.underlying32 rfl HIK.out ?_)
          | (refine wpList_load_row rfl 70 (.tmp 4) rfl (w.heap.size + 1) rfl _ _ _ _ HR7.out.2 Tryd.underlying70 rfl HIP.out ?_)
          | (go_at_call 80; (with_reducible refine Calls.mono (HST.out _ _ _ (HBS.out _ HW7.out) (HC.out _ HW7.out) HW7.out) ?_); rintro e w8 ⟨v8, rfl, ho, hb⟩; have HO8 := Lib.hid ho.sl; have HB8 := Lib.hid hb; have HW8 := Lib.hid (HW7.out.trans (hb.mono HW7.out.size)); clear ho hb)
          | (go_at_call 83; (with_reducible refine Calls.mono (HUQ.out _ _ HO8.out) ?_); rintro e w9 ⟨v9, rfl, ho, hb⟩; have HO9 := Lib.hid (ho.mono HW8.out.size); have HB9 := Lib.hid (HB8.out.trans (hb.mono HB8.out.size)); have HW9 := Lib.hid (HW8.out.trans (hb.mono HW8.out.size)); clear ho hb))
        have ce := cell_of_row w9 (w.heap.size + 1) 2 _ _ _ ((HB9.out.block (w.heap.size + 1) (Array.getElem?_eq_some_iff.1 HR7.out.2).1).trans HR7.out.2)
        go_quiet (fail)
        go_wp2
        refine bodyPost_ret (v := .tuple #[v9, .int .u32 (ep : Int), .int .i64 0]) (by simp [results, Tryd.results55, go_sem]) rfl (Or.inl ⟨_, _, _, HON.out, rfl, HO9.out.below (Below.drewN (Below.refl _ _) _) (Nat.le_refl _), Below.drewN HW9.out _⟩)
    · have HQ := Lib.hid (fun v0 v1 W h0 h1 => HEN.out ht v0 v1 W h0 h1)
      have HON := Lib.hid (show OR = none by rw [HO.out, if_pos ht])
      clear ht HEY HEN HO HUY HUN
      -- REG C BEGIN
      refine wp_region_held_drew (S := fun W => Below Y.heap.size Y W) (by kernel_rfl) ((Below.refl Y.heap.size Y).drew) (fun hHeld => ?_)
      refine wpAnyH_take (i := 0) (v := ?v13) rfl (by kernel_rfl) (by kernel_rfl) (by kernel_rfl) (fun _ _ _ h => h) (Or.inl ⟨by rfl, ?y13⟩) (by assumption) ?r13
      case y13 =>
        intro w' hSw
        go_split_ands
        go_simp
        try with_reducible rfl
      try simp only [List.getElem_toArray, List.getElem_cons_zero, List.getElem_cons_succ, Act.put, List.setIfInBounds_toArray, List.set_cons_zero, List.set_cons_succ]
      refine wpAnyH_take (i := 1) (v := ?v14) rfl (by kernel_rfl) (by kernel_rfl) (by kernel_rfl) (fun _ _ _ h => h) (Or.inl ⟨by rfl, ?y14⟩) (by assumption) ?r14
      case y14 =>
        intro w' hSw
        go_split_ands
        go_simp
        try with_reducible rfl
      try simp only [List.getElem_toArray, List.getElem_cons_zero, List.getElem_cons_succ, Act.put, List.setIfInBounds_toArray, List.set_cons_zero, List.set_cons_succ]
      refine wpAnyH_take (i := 2) (v := ?v15) rfl (by kernel_rfl) (by kernel_rfl) (by kernel_rfl) (fun _ _ _ h => h) (Or.inl ⟨by rfl, ?y15⟩) (by assumption) ?r15
      case y15 =>
        intro w' hSw
        go_split_ands
        go_simp
        try with_reducible rfl
      try simp only [List.getElem_toArray, List.getElem_cons_zero, List.getElem_cons_succ, Act.put, List.setIfInBounds_toArray, List.set_cons_zero, List.set_cons_succ]
      refine wpAnyH_take (i := 3) (v := ?v16) rfl (by kernel_rfl) (by kernel_rfl) (by kernel_rfl) (fun _ _ _ h => h) (Or.inl ⟨by rfl, ?y16⟩) (by assumption) ?r16
      case y16 =>
        intro w' hSw
        go_split_ands
        go_simp
        try with_reducible rfl
      try simp only [List.getElem_toArray, List.getElem_cons_zero, List.getElem_cons_succ, Act.put, List.setIfInBounds_toArray, List.set_cons_zero, List.set_cons_succ]
      refine wpAnyH_take (i := 4) (v := ?v17) rfl (by kernel_rfl) (by kernel_rfl) (by kernel_rfl) (fun _ _ _ h => h) (Or.inl ⟨by rfl, ?y17⟩) (by assumption) ?r17
      case y17 =>
        intro w' hSw
        go_split_ands
        go_simp
        try with_reducible rfl
      try simp only [List.getElem_toArray, List.getElem_cons_zero, List.getElem_cons_succ, Act.put, List.setIfInBounds_toArray, List.set_cons_zero, List.set_cons_succ]
      refine wpAnyH_ready (rs := [5]) (by kernel_rfl) (by simp) ?_
      refine AllReadyH.cons (i := 5) rfl (fun K hK => ?_) AllReadyH.nil
      go_simp
      go_at_call 43
      (with_reducible refine Calls.mono (HQ.out _ _ _ (HYO.out _ ((Below.refl Y.heap.size Y).drew)) (HTY.out _ ((Below.refl Y.heap.size Y).drew))) ?_)
      rintro e w_5 ⟨rfl, hb⟩
      have HB_6 := Lib.hid (((Below.refl Y.heap.size Y).drew).trans (hb.mono ((Below.refl Y.heap.size Y).drew).size))
      clear hb
      refine hK.out _ _ (HB_6.out) (fun hHeld' => ?_)
      clear hHeld hK K
      have hHeld := hHeld'
      clear hHeld'
      try simp only [List.getElem_toArray, List.getElem_cons_zero, List.getElem_cons_succ, Act.put, List.setIfInBounds_toArray, List.set_cons_zero, List.set_cons_succ]
      refine wpAnyH_take (i := 6) (v := ?v18) rfl (by kernel_rfl) (by kernel_rfl) (by kernel_rfl) (fun _ _ _ h => h) (Or.inl ⟨by rfl, ?y18⟩) (by assumption) ?r18
      case y18 =>
        intro w' hSw
        go_split_ands
        go_simp
        try with_reducible rfl
      try simp only [List.getElem_toArray, List.getElem_cons_zero, List.getElem_cons_succ, Act.put, List.setIfInBounds_toArray, List.set_cons_zero, List.set_cons_succ]
      refine wpAnyH_done (by kernel_rfl) ?_ _
      have HW7 := Lib.hid (HBY.out.trans ((HB_6.out).mono HBY.out.size))
      have HR7 := Lib.hid (HLY.out _ (HB_6.out))
      -- REG C END
      clear hw1 hw2 hw3 hw4 hw5
      go_wp2
      refine bodyPost_ret (v := .tuple #[.slice none 0 0, .int .u32 0, .int .i64 9]) (by simp [results, Tryd.results55, go_sem]) rfl (Or.inr ⟨HON.out, rfl, HW7.out⟩)
/-- The seal's call Open. -/
theorem open_any (key ctx : List (BitVec 8)) (hk : key.length = 32) (hcl : ctx.length ≤ 1000000) (vc : Value) (pos ep0 : Nat) (hp : pos < 18446744073709551616) (s : List (BitVec 8)) (v : Value) (w : World) (hs : SlB w v s) (hcs : SlB w vc ctx) (hlen : s.length ≤ 1000000) (hG : Glob w) :
    Calls Tryd.prog 55 #[.agg (bytes key), .agg #[vc, .int .u64 (pos : Int), .int .u32 (ep0 : Int)], v] w (OpenR w (Sea.open_ key ctx pos s)) := by
  by_cases h : s.length < 100 ∨ Sea.bucket (s.length - 40) ≠ s.length - 36
  · refine (open_short _ _ v s w hs hlen h).mono ?_
    rintro e w' ⟨rfl, hb⟩
    exact .inr ⟨by unfold Sea.open_; rw [if_pos h], rfl, hb⟩
  · exact open_core key ctx hk hcl vc pos ep0 hp s v w hs hcs (by omega) (Classical.not_not.1 (fun hh => h (.inr hh))) hG
end Go.Proofs.YtnoilogepkelaaaDoor
namespace Go.Proofs.YtnoilogepkelaaaDoor
set_option linter.unusedVariables false
set_option linter.unusedSimpArgs false
open Go Go.RowKit

theorem open_yes {key ctx s t : List (BitVec 8)} {pos ep : Nat} (h : Sea.open_ key ctx pos s = some (t, ep)) (hk : key.length = 32) (hcl : ctx.length ≤ 1000000) (vc : Value) (ep0 : Nat) (hp : pos < 18446744073709551616) (v : Value) (w : World) (hs : SlB w v s) (hcs : SlB w vc ctx) (hlen : s.length ≤ 1000000) (hG : Glob w) :
    Calls Tryd.prog 55 #[.agg (bytes key), .agg #[vc, .int .u64 (pos : Int), .int .u32 (ep0 : Int)], v] w fun e w' => ∃ v', e = .returned (.tuple #[v', .int .u32 (ep : Int), .int .i64 0]) ∧ OwnB 5 w.heap.size w' v' t ∧ Below w.heap.size w w' := by
  refine (open_any key ctx hk hcl vc pos ep0 hp s v w hs hcs hlen hG).mono ?_
  rintro e w' (⟨t', ep', v', h1, h2, h3, h4⟩ | ⟨h1, _⟩)
  · rw [h] at h1
    obtain ⟨rfl, rfl⟩ : t = t' ∧ ep = ep' := by simpa using h1
    exact ⟨v', h2, h3, h4⟩
  · rw [h] at h1; cases h1
theorem open_no {key ctx s : List (BitVec 8)} {pos : Nat} (h : Sea.open_ key ctx pos s = none) (hk : key.length = 32) (hcl : ctx.length ≤ 1000000) (vc : Value) (ep0 : Nat) (hp : pos < 18446744073709551616) (v : Value) (w : World) (hs : SlB w v s) (hcs : SlB w vc ctx) (hlen : s.length ≤ 1000000) (hG : Glob w) :
    Calls Tryd.prog 55 #[.agg (bytes key), .agg #[vc, .int .u64 (pos : Int), .int .u32 (ep0 : Int)], v] w fun e w' => e = .returned (.tuple #[.slice none 0 0, .int .u32 0, .int .i64 9]) ∧ Below w.heap.size w w' := by
  refine (open_any key ctx hk hcl vc pos ep0 hp s v w hs hcs hlen hG).mono ?_
  rintro e w' (⟨t', ep', v', h1, h2, h3, h4⟩ | ⟨_, h2, h3⟩)
  · rw [h] at h1; cases h1
  · exact ⟨h2, h3⟩

def hereB : List (BitVec 8) := [104, 101, 114, 101]
def key1 : List (BitVec 8) := 1 :: List.replicate 31 0
def abB : List (BitVec 8) := [97, 98]
/-- What here comes to. -/
def HereR (w : World) (e : Ending) (w' : World) : Prop := ∃ a cap, e = .returned (.agg #[.slice a 4 cap, .int .u64 7, .int .u32 3]) ∧ SlB w' (.slice a 4 cap) hereB ∧ Below w.heap.size w w'
set_option maxRecDepth 100000 in
theorem here_any (w : World) : Calls Tryd.prog 54 #[] w (HereR w) := by
  have kc := fun W => konst_conv hereB W 4
  rw [show bytes hereB = #[.int .u8 104, .int .u8 101, .int .u8 114, .int .u8 101] from rfl] at kc
  go_enter Tryd.func54, Tryd.ntmps54
  go_upto_region 1 with fail
  obtain ⟨X, hX, hBX, hXs, hX0⟩ := alloc1 w (.cells #[.slice none 0 0, .int .u64 0, .int .u32 0] 70)
  rw [hX]
  have HBX := Lib.hid hBX
  have HX0 := Lib.hid hX0
  have HXS := Lib.hid hXs
  have HXK := Lib.hid ((((konst_below X hereB)).block w.heap.size (by omega)).trans hX0)
  clear hX hBX hXs hX0
  have HIP := Lib.hid (show (Tryd.prog.info? 70).map (·.size) = some (#[.slice (some ⟨X.heap.size, 0, none⟩) 4 4, .int .u64 7, .int .u32 3] : Array Value).size by kernel_rfl)
  go_wp2_with (refine wpList_store_row rfl 70 (.tmp 0) (.tmp 3) rfl w.heap.size _ rfl rfl _ _ HXK.out HIP.out rfl (by kernel_rfl) ?_)
  have hb := HBX.out.trans ((konst_below X hereB).mono HBX.out.size)
  exact bodyPost_ret (results_cell_row Tryd.results54 _ _ w.heap.size _ _ _ _ rfl (setRow_heap _ _ _ _ _ _ HXK.out) Tryd.underlying70 rfl HIP.out) rfl
    ⟨_, _, rfl, SlB.kept (l := [w.heap.size]) (konst_sl X hereB (by simp [hereB])) ((Kept.refl _ _).setRow (by simp) _) (by have := HXS.out; simp; omega), hb.trans (((Kept.refl [w.heap.size] _).setRow (by simp) _).toBelow (B := w.heap.size) (by simp) hb.size)⟩

set_option maxRecDepth 100000 in
set_option maxHeartbeats 2000000 in
theorem sawake_any (w : World) (hG : Glob w) : Calls Tryd.prog 52 #[] w fun e w' => e = .returned (.bool true) ∧ Below w.heap.size w w' := by
  have hgz := hG.size
  have HSE := Lib.hid (fun u v W (hu : SlB W u hereB) (hv : SlB W v abB) (hB : Below w.heap.size w W) => seal_ok key1 hereB rfl (by simp [hereB]) u 7 3 (by omega) (by omega) abB v W hv hu (by simp [abB]) (hG.below hB hgz))
  have HOP := Lib.hid (fun u v W (hu : SlB W u hereB) (hv : SlB W v (Sea.seal_ key1 hereB 7 3 abB)) (hB : Below w.heap.size w W) => open_yes (Sea.open_seal key1 hereB 7 3 abB (by omega) (by simp [abB])) rfl (by simp [hereB]) u 3 (by omega) v W hv hu (by rw [Sea.seal_length _ _ _ _ _ (by simp [abB])]; have := Sea.bucket_le abB.length; omega) (hG.below hB hgz))
  have HL := Lib.hid (show (Sea.seal_ key1 hereB 7 3 abB).length = 100 by rw [Sea.seal_length _ _ _ _ _ (by simp [abB])]; decide)
  obtain ⟨S, hS⟩ : ∃ S, Sea.seal_ key1 hereB 7 3 abB = S := ⟨_, rfl⟩
  rw [hS] at HL
  simp only [hS] at HSE HOP
  rw [show bytes key1 = #[.int .u8 1, .int .u8 0, .int .u8 0, .int .u8 0, .int .u8 0, .int .u8 0, .int .u8 0, .int .u8 0, .int .u8 0, .int .u8 0, .int .u8 0, .int .u8 0, .int .u8 0, .int .u8 0, .int .u8 0, .int .u8 0, .int .u8 0, .int .u8 0, .int .u8 0, .int .u8 0, .int .u8 0, .int .u8 0, .int .u8 0, .int .u8 0, .int .u8 0, .int .u8 0, .int .u8 0, .int .u8 0, .int .u8 0, .int .u8 0, .int .u8 0, .int .u8 0] from rfl] at HSE HOP
  simp only [show ((7 : Nat) : Int) = 7 from rfl, show ((3 : Nat) : Int) = 3 from rfl] at HSE HOP
  have HKA := Lib.hid (show ∀ W : World, SlB (konst W abB) (.slice (some ⟨W.heap.size, 0, none⟩) 2 2) abB from fun W => konst_sl W abB (by simp [abB]))
  have HHE := Lib.hid (fun W => here_any W)
  have kc := fun W => konst_conv abB W 2
  rw [show bytes abB = #[.int .u8 97, .int .u8 98] from rfl] at kc
  have HSAB := Lib.hid (show (.string { data := #[97, 98] } : Value) = .string (strB abB) by kernel_rfl)
  clear hG hS
  go_enter Tryd.func52, Tryd.ntmps52
  go_upto_region 2 with (first
    | (go_at_call 54; (with_reducible refine Calls.mono (HHE.out _) ?_); rintro e w1 ⟨a1, c1, rfl, hs, hb⟩; have HS1 := Lib.hid hs; have HB1 := Lib.hid hb; clear hs hb)
    | (go_at_call 53; (with_reducible refine Calls.mono (HSE.out _ _ _ (HS1.out.below (konst_below _ _) (Nat.le_refl _)) (HKA.out _) (HB1.out.trans ((konst_below _ abB).mono HB1.out.size))) ?_); rintro e w2 ⟨v2, rfl, ho, hb⟩; obtain ⟨a2, c2, rfl⟩ := ho.sl.len; have HS2 := Lib.hid ho.sl; have HB2 := Lib.hid ((HB1.out.trans ((konst_below _ abB).mono HB1.out.size)).trans (hb.mono (by have := HB1.out.size; simp [konst_size]; omega))); clear ho hb))
  rw [HL.out]
  clear HS1 HB1
  go_upto_region 3 with (first
    | (go_at_call 54; (with_reducible refine Calls.mono (HHE.out _) ?_); rintro e w3 ⟨a3, c3, rfl, hs, hb⟩; have HS3 := Lib.hid hs; have HT3 := Lib.hid (HS2.out.below hb (Nat.le_refl _)); have HB3 := Lib.hid (HB2.out.trans (hb.mono HB2.out.size)); clear hs hb)
    | (go_at_call 55; rw [← HL.out]; (with_reducible refine Calls.mono (HOP.out _ _ _ HS3.out HT3.out HB3.out) ?_); rw [HL.out]; rintro e w4 ⟨v4, rfl, ho, hb⟩; have HO4 := Lib.hid ho.sl; have HB4 := Lib.hid (HB3.out.trans (hb.mono HB3.out.size)); clear ho hb))
  have kab := conv_any HO4.out
  rw [← HSAB.out] at kab
  go_wp2
  go_ret
  exact ⟨rfl, HB4.out⟩
end Go.Proofs.YtnoilogepkelaaaDoor
namespace Go.Proofs.YtnoilogepkelaaaDoor
set_option linter.unusedVariables false
set_option linter.unusedSimpArgs false
open Go Go.RowKit

theorem rbucket_neg (n : Int) (hn : n < 0) (w : World) : Calls Tryd.prog 50 #[.int .i64 n] w fun e w' => e = .returned (.int .i64 0) ∧ w = w' := by
  go_enter Tryd.func50, Tryd.ntmps50
  go_wp2
  go_ret
  exact ⟨rfl, rfl⟩
theorem rbucket_nat (n : Nat) (hn : n ≤ 9223372036854775807) (w : World) : Calls Tryd.prog 50 #[.int .i64 (n : Int)] w fun e w' => e = .returned (.int .i64 ((Sea.bucket n : Nat) : Int)) ∧ w = w' := by
  have h0 : ¬ (n : Int) < 0 := by omega
  by_cases h : n ≤ 131068
  · have HS := Lib.hid (DblAt.start n h)
    generalize Sea.bucket n = R at HS ⊢
    have h1 : (n : Int) ≤ 131068 := by omega
    go_enter Tryd.func50, Tryd.ntmps50
    go_wp2
    go_loop [3] (fun s3 => ∃ b : Nat, s3 = .int .i64 b ∧ b ≤ 131072 ∧ 1 ≤ b ∧ Hid (DblAt (n + 4) R b)) (fun s3 => (131072 - intOf s3).toNat)
    case atStart => exact ⟨64, rfl, by omega, by omega, HS⟩
    case round =>
      obtain ⟨b, rfl, hb, hb1, HD⟩ := hrel
      by_cases hlt : b < n + 4
      · have ⟨h2, h3⟩ := HD.out.lt (by omega) hlt
        have HN := Lib.hid h3
        have hi : (b : Int) < (n : Int) + 4 := by omega
        clear h3 hlt
        go_wp2
        go_round
        case rel => exact ⟨2 * b, by first | go_num | (congr 1; omega), by omega, by omega, HN⟩
        case measure => simp [intOf]; omega
      · have h2 := HD.out.ge hlt
        have HR := Lib.hid h2
        clear h2
        have hi : (n : Int) + 4 ≤ (b : Int) := by omega
        clear hlt
        go_wp2
        go_ret
        exact ⟨by rw [HR.out]; rfl, rfl⟩
  · rw [Sea.bucket_none n (by omega)]
    have h1 : (131068 : Int) < (n : Int) := by omega
    clear h
    go_enter Tryd.func50, Tryd.ntmps50
    go_wp2
    go_ret
    exact ⟨rfl, rfl⟩
/-- Both buckets of any number. -/
theorem buckets_same (n : Int) (h0 : n ≤ 9223372036854775807) : ∃ r : Int, (∀ w, Calls Tryd.prog 49 #[.int .i64 n] w fun e w' => e = .returned (.int .i64 r) ∧ w = w') ∧ (∀ w, Calls Tryd.prog 50 #[.int .i64 n] w fun e w' => e = .returned (.int .i64 r) ∧ w = w') := by
  by_cases h : n < 0
  · exact ⟨0, fun w => bucket_neg n h w, fun w => rbucket_neg n h w⟩
  · obtain ⟨k, rfl⟩ := Int.eq_ofNat_of_zero_le (show 0 ≤ n by omega)
    exact ⟨_, fun w => bucket_nat k (by omega) w, fun w => rbucket_nat k (by omega) w⟩
theorem law_sealBuckets {w : World} (n : Int) (hwf : (Lit.int .i64 n).wf = true) (hG : Glob w) :
    Calls Tryd.prog 17 #[.int .i64 n] w fun e w' => e = .returned (.bool true) ∧ Below w.heap.size w w' := by
  have HA := Lib.hid (sawake_any w hG)
  have HM := Lib.hid (fun w => most_any w)
  have hn : -9223372036854775808 ≤ n ∧ n ≤ 9223372036854775807 := by simpa [Lit.wf, IntKind.min, IntKind.max, IntKind.bits, IntKind.signed] using hwf
  obtain ⟨r, h1, h2⟩ := buckets_same n hn.2
  have H1 := Lib.hid h1
  have H2 := Lib.hid h2
  clear h1 h2 hn hG hwf
  go_enter Tryd.func17, Tryd.ntmps17
  go_wp2_with (first
    | (go_at_call 49; (with_reducible refine Calls.mono (H1.out _) ?_); rintro e w' ⟨rfl, rfl⟩)
    | (go_at_call 50; (with_reducible refine Calls.mono (H2.out _) ?_); rintro e w' ⟨rfl, rfl⟩)
    | (go_at_call 51; (with_reducible refine Calls.mono (HM.out _) ?_); rintro e w' ⟨rfl, rfl⟩)
    | (go_at_call 52; (with_reducible refine Calls.mono HA.out ?_); rintro e w1 ⟨rfl, hb⟩; have HB := Lib.hid hb; clear hb))
  go_ret
  exact ⟨rfl, HB.out⟩

set_option maxRecDepth 100000 in
/-- long: is there more than is looked at? -/
theorem long_any (q : Bool) (ac : Option Addr) (m capc : Nat) (pos ep : Int) (at_ : Option Addr) (n capt g : Nat) (E : TypeId) (fr : Nat × Nat) (w : World) (hg : w.heap[g]? = some (.cells #[.slice at_ n capt] E fr))
    (hq : q = (decide (3000 < n) || decide (200 < m))) :
    Calls Tryd.prog 56 #[.agg #[.slice ac m capc, .int .u64 pos, .int .u32 ep], .slice (some ⟨g, 0, none⟩) 1 1] w fun e w' => e = .returned (.bool q) ∧ Below w.heap.size w w' := by
  have hlt := (Array.getElem?_eq_some_iff.1 hg).1
  have HG := Lib.hid hg
  have HQ := Lib.hid hq
  clear hg hq
  go_enter Tryd.func56, Tryd.ntmps56
  go_upto_region 1 with fail
  obtain ⟨X, hX, hBX, hXs, hX0⟩ := alloc1 w (.cells #[.slice ac m capc, .int .u64 pos, .int .u32 ep] 70)
  rw [hX]
  have HBX := Lib.hid hBX
  have c1 := cell_of_row X g 0 _ _ _ ((hBX.block g hlt).trans HG.out)
  have c2 := cell_of_row X w.heap.size 0 _ _ _ hX0
  clear hX hBX hXs hX0 hlt
  go_wp2
  go_loop [5] (fun s5 => ∃ k : Nat, k ≤ 1 ∧ s5 = .int .i64 k ∧ (k = 1 → n ≤ 3000)) (fun s5 => 1 - (intOf s5).toNat)
  case atStart => exact ⟨0, by omega, rfl, by omega⟩
  case round =>
    obtain ⟨k, hk, rfl, hkn⟩ := hrel
    by_cases hk0 : k = 0
    · subst hk0
      clear hkn
      by_cases h3 : 3000 < n
      · have h3' : (3000 : Int) < (n : Int) := by omega
        have HQT := Lib.hid (show q = true by rw [HQ.out]; simp [h3])
        go_wp2
        go_ret
        exact ⟨by rw [HQT.out]; rfl, HBX.out⟩
      · have h3' : (n : Int) ≤ 3000 := by omega
        have HN := Lib.hid (show n ≤ 3000 by omega)
        clear h3
        go_wp2
        go_round
        case rel => exact ⟨1, by omega, rfl, fun _ => HN.out⟩
        case measure => simp [intOf]
    · obtain rfl : k = 1 := by omega
      have HN := Lib.hid (hkn rfl)
      clear hkn
      by_cases h2 : 200 < m
      · have h2' : (200 : Int) < (m : Int) := by omega
        have HQT := Lib.hid (show q = true by rw [HQ.out]; simp [h2])
        go_wp2
        go_ret
        exact ⟨by rw [HQT.out]; rfl, HBX.out⟩
      · have h2' : decide ((200 : Int) < (m : Int)) = false := by simp; omega
        have HQT := Lib.hid (show q = false by rw [HQ.out]; have := HN.out; simp; omega)
        go_wp2
        go_ret
        exact ⟨by rw [HQT.out]; rfl, HBX.out⟩
end Go.Proofs.YtnoilogepkelaaaDoor
