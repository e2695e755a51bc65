/-
  chacha.Stream: of no bytes; of any bytes.
-/
import Derived.Test.YtnoilogepkelaaaDoorBBase
import Derived.Deep.QuietTactic
import Derived.BigQuiet
import Derived.Deep.RegionHeld3
import Derived.Deep.DeepCutAuto
import Derived.Deep.RegionWith
import Derived.Deep.WholeRow
namespace Go.Proofs.YtnoilogepkelaaaDoor.Cha
set_option linter.unusedVariables false
set_option linter.unusedSimpArgs false

structure Q where
  a : BitVec 32
  b : BitVec 32
  c : BitVec 32
  d : BitVec 32

/-- Half of a quarter round: turned by m, then by n. -/
def half (q : Q) (m n : Nat) : Q :=
  let a := q.a + q.b
  let d := (q.d ^^^ a).rotateLeft m
  let c := q.c + d
  let b := (q.b ^^^ c).rotateLeft n
  ⟨a, b, c, d⟩
def quarter (q : Q) : Q := half (half q 16 12) 8 7

/-- Four bytes as a word, the least first. -/
def le4 (a b c d : BitVec 8) : BitVec 32 := a.setWidth 32 ||| b.setWidth 32 <<< 8 ||| c.setWidth 32 <<< 16 ||| d.setWidth 32 <<< 24

/-- A quarter round of four of a state's words. -/
def qstep (xs : List (BitVec 32)) (p q r s : Nat) : List (BitVec 32) :=
  let t := quarter ⟨xs.getD p 0, xs.getD q 0, xs.getD r 0, xs.getD s 0⟩
  (((xs.set p t.a).set q t.b).set r t.c).set s t.d
def dstep (xs : List (BitVec 32)) (i : Nat) : List (BitVec 32) :=
  qstep xs (i % 4) (4 + (i % 4 + i / 4) % 4) (8 + (i % 4 + 2 * (i / 4)) % 4) (12 + (i % 4 + 3 * (i / 4)) % 4)
/-- After n quarter rounds of a double round. -/
def dsteps (xs : List (BitVec 32)) : Nat → List (BitVec 32)
  | 0 => xs
  | n + 1 => dstep (dsteps xs n) n
def double (xs : List (BitVec 32)) : List (BitVec 32) := dsteps xs 8
theorem qstep_length (xs : List (BitVec 32)) (p q r s : Nat) : (qstep xs p q r s).length = xs.length := by simp [qstep]
theorem dsteps_length (xs : List (BitVec 32)) (n : Nat) : (dsteps xs n).length = xs.length := by
  induction n with
  | zero => rfl
  | succ n ih => rw [dsteps, dstep, qstep_length, ih]

/-- "expand 32-byte k". -/
def head : List (BitVec 8) := [101, 120, 112, 97, 110, 100, 32, 51, 50, 45, 98, 121, 116, 101, 32, 107]
/-- A word of the bytes from 4 i on. -/
def wordAt (all : List (BitVec 8)) (i : Nat) : BitVec 32 := le4 (all.getD (4 * i) 0) (all.getD (4 * i + 1) 0) (all.getD (4 * i + 2) 0) (all.getD (4 * i + 3) 0)
/-- A state at first. -/
def begin (key : List (BitVec 8)) (c : BitVec 32) (nonce : List (BitVec 8)) : List (BitVec 32) :=
  ((List.range 16).map (wordAt (head ++ key ++ [0, 0, 0, 0] ++ nonce))).set 12 c

theorem wordAt_append_left (xs ys : List (BitVec 8)) (i : Nat) (h : 4 * i + 4 ≤ xs.length) : wordAt (xs ++ ys) i = wordAt xs i := by
  have e : ∀ j, j < xs.length → (xs ++ ys).getD j 0 = xs.getD j 0 := fun j hj => by simp [List.getD, List.getElem?_append, hj]
  simp only [wordAt, e (4 * i) (by omega), e (4 * i + 1) (by omega), e (4 * i + 2) (by omega), e (4 * i + 3) (by omega)]
theorem wordAt_append_right (xs ys : List (BitVec 8)) (n i : Nat) (h : xs.length = 4 * n) : wordAt (xs ++ ys) (n + i) = wordAt ys i := by
  have e : ∀ j, (xs ++ ys).getD (4 * (n + i) + j) 0 = ys.getD (4 * i + j) 0 := fun j => by
    simp only [List.getD]
    rw [List.getElem?_append_right (by omega), show 4 * (n + i) + j - xs.length = 4 * i + j by omega]
  have e0 := e 0
  simp only [Nat.add_zero] at e0
  simp only [wordAt, e0, e 1, e 2, e 3]
/-- A state, piece by piece. -/
theorem begin_eq (key : List (BitVec 8)) (c : BitVec 32) (nonce : List (BitVec 8)) (hk : key.length = 32) (hn : nonce.length = 12) :
    begin key c nonce = [0x61707865, 0x3320646e, 0x79622d32, 0x6b206574] ++ (List.range 8).map (wordAt key) ++ [c] ++ (List.range 3).map (wordAt nonce) := by
  have hh : head.length = 16 := rfl
  have a0 : ∀ i, i < 4 → wordAt (head ++ key ++ [0, 0, 0, 0] ++ nonce) i = wordAt head i := fun i hi => by
    rw [List.append_assoc, List.append_assoc, wordAt_append_left _ _ _ (by omega)]
  have a1 : ∀ i, i < 8 → wordAt (head ++ key ++ [0, 0, 0, 0] ++ nonce) (4 + i) = wordAt key i := fun i hi => by
    rw [List.append_assoc, List.append_assoc, wordAt_append_right _ _ 4 i (by omega), wordAt_append_left _ _ _ (by omega)]
  have a2 : ∀ i, i < 3 → wordAt (head ++ key ++ [0, 0, 0, 0] ++ nonce) (13 + i) = wordAt nonce i := fun i hi => by
    rw [wordAt_append_right _ _ 13 i (by simp [hh, hk])]
  simp only [begin, show List.range 16 = [0, 1, 2, 3, 4 + 0, 4 + 1, 4 + 2, 4 + 3, 4 + 4, 4 + 5, 4 + 6, 4 + 7, 12, 13 + 0, 13 + 1, 13 + 2] from rfl, List.map_cons, List.map_nil,
    a0 0 (by omega), a0 1 (by omega), a0 2 (by omega), a0 3 (by omega), a1 0 (by omega), a1 1 (by omega), a1 2 (by omega), a1 3 (by omega), a1 4 (by omega), a1 5 (by omega), a1 6 (by omega), a1 7 (by omega),
    a2 0 (by omega), a2 1 (by omega), a2 2 (by omega), show List.range 8 = [0, 1, 2, 3, 4, 5, 6, 7] from rfl, show List.range 3 = [0, 1, 2] from rfl]
  rfl

def rounds (xs : List (BitVec 32)) : Nat → List (BitVec 32)
  | 0 => xs
  | n + 1 => double (rounds xs n)
theorem double_length (xs : List (BitVec 32)) : (double xs).length = xs.length := dsteps_length xs 8
theorem rounds_length (xs : List (BitVec 32)) (n : Nat) : (rounds xs n).length = xs.length := by
  induction n with
  | zero => rfl
  | succ n ih => rw [rounds, double_length, ih]
theorem begin_length (key : List (BitVec 8)) (c : BitVec 32) (nonce : List (BitVec 8)) : (begin key c nonce).length = 16 := by simp [begin]
/-- Byte j of a word. -/
def byteOf (x : BitVec 32) (j : Nat) : BitVec 8 := (x >>> (8 * j)).setWidth 8
def outByte (s first : List (BitVec 32)) (j : Nat) : BitVec 8 := byteOf (s.getD (j / 4) 0 + first.getD (j / 4) 0) (j % 4)
theorem outByte_at (s first : List (BitVec 32)) (k j : Nat) (h : j < 4) : outByte s first (4 * k + j) = byteOf (s.getD k 0 + first.getD k 0) j := by
  unfold outByte
  rw [show (4 * k + j) / 4 = k by omega, show (4 * k + j) % 4 = j by omega]
def block (key : List (BitVec 8)) (c : BitVec 32) (nonce : List (BitVec 8)) : List (BitVec 8) :=
  (List.range 64).map (outByte (rounds (begin key c nonce) 10) (begin key c nonce))
theorem block_length (key : List (BitVec 8)) (c : BitVec 32) (nonce : List (BitVec 8)) : (block key c nonce).length = 64 := by simp [block]

/-- A quarter round, gone back: b and d are turned the rest of the way round. -/
def back (q : Q) : Q :=
  let b1 := q.b.rotateLeft 25 ^^^ q.c
  let c1 := q.c - q.d
  let d1 := q.d.rotateLeft 24 ^^^ q.a
  let a1 := q.a - b1
  let b2 := b1.rotateLeft 20 ^^^ c1
  let c2 := c1 - d1
  let d2 := d1.rotateLeft 16 ^^^ a1
  let a2 := a1 - b2
  ⟨a2, b2, c2, d2⟩

theorem turn_round (x : BitVec 32) (n : Nat) (h0 : 0 < n) (h1 : n < 32) : (x.rotateLeft n).rotateLeft (32 - n) = x := by
  ext i hi
  simp only [BitVec.getElem_rotateLeft]
  have e1 : n % 32 = n := Nat.mod_eq_of_lt h1
  have e2 : (32 - n) % 32 = 32 - n := Nat.mod_eq_of_lt (by omega)
  split <;> split <;> first | (congr 1; omega) | omega

theorem xor_back (x y : BitVec 32) : x ^^^ y ^^^ y = x := by
  rw [BitVec.xor_assoc, BitVec.xor_self, BitVec.xor_zero]
theorem add_back (x y : BitVec 32) : x + y - y = x := BitVec.add_sub_cancel x y

theorem back_quarter (q : Q) : back (quarter q) = q := by
  obtain ⟨a, b, c, d⟩ := q
  simp only [quarter, half, back, Q.mk.injEq]
  have r7 : ∀ x : BitVec 32, (x.rotateLeft 7).rotateLeft 25 = x := fun x => turn_round x 7 (by omega) (by omega)
  have r8 : ∀ x : BitVec 32, (x.rotateLeft 8).rotateLeft 24 = x := fun x => turn_round x 8 (by omega) (by omega)
  have r12 : ∀ x : BitVec 32, (x.rotateLeft 12).rotateLeft 20 = x := fun x => turn_round x 12 (by omega) (by omega)
  have r16 : ∀ x : BitVec 32, (x.rotateLeft 16).rotateLeft 16 = x := fun x => turn_round x 16 (by omega) (by omega)
  simp only [r7, r8, r12, r16, xor_back, add_back, and_self]
end Go.Proofs.YtnoilogepkelaaaDoor.Cha
namespace Go.Proofs.YtnoilogepkelaaaDoor
set_option linter.unusedVariables false
set_option linter.unusedSimpArgs false
open Go Go.RowKit
attribute [local go_sem] u32_add u32_sub u32_xor u32_or u32_and' u32_shl u32_shr

def aggQ (q : Cha.Q) : Value := .agg #[.int .u32 (wv q.a), .int .u32 (wv q.b), .int .u32 (wv q.c), .int .u32 (wv q.d)]

theorem quarter_any (q : Cha.Q) (w : World) :
    Calls Tryd.prog 107 #[aggQ q] w fun e w' => e = .returned (aggQ (Cha.quarter q)) ∧ Below w.heap.size w w' := by
  obtain ⟨a, b, c, d⟩ := q
  have i0 : ∀ w, (Instr.index 138 (.agg #[.int .i64 16, .int .i64 12, .int .i64 8, .int .i64 7]) (.int .i64 0)).run Tryd.prog w = .ok (.agg #[.int .i64 16, .int .i64 12]) w := fun _ => by kernel_rfl
  have i1 : ∀ w, (Instr.index 138 (.agg #[.int .i64 16, .int .i64 12, .int .i64 8, .int .i64 7]) (.int .i64 1)).run Tryd.prog w = .ok (.agg #[.int .i64 8, .int .i64 7]) w := fun _ => by kernel_rfl
  unfold aggQ
  go_enter Tryd.func107, Tryd.ntmps107
  go_wp2
  go_quiet (fail)
  go_wp2
  refine wp_loop_rounds 3 ?_
  rw [rounds_succ]
  go_wp2_with (go_at_call 87; refine (rotl_any _ _ _).mono ?_; rintro e w' ⟨rfl, rfl⟩)
  rw [rounds_succ]
  go_wp2_with (go_at_call 87; refine (rotl_any _ _ _).mono ?_; rintro e w' ⟨rfl, rfl⟩)
  rw [rounds_succ]
  go_wp2
  refine bodyPost_ret (v := aggQ (Cha.quarter ⟨a, b, c, d⟩)) ?_ rfl ⟨rfl, ?_⟩
  · simp [results, Tryd.results107, go_sem, aggQ, Cha.quarter, Cha.half]
  · repeat (first | with_reducible exact Below.refl _ _ | with_reducible refine Below.drewN ?_ _ | with_reducible refine Below.alloc ?_ (by simp <;> omega) _ | with_reducible refine Below.setCell ?_ (by simp <;> omega) _)

theorem quarter_agg (a b c d : BitVec 32) (w : World) :
    Calls Tryd.prog 107 #[.agg #[.int .u32 (wv a), .int .u32 (wv b), .int .u32 (wv c), .int .u32 (wv d)]] w fun e w' =>
      e = .returned (.agg #[.int .u32 (wv (Cha.quarter ⟨a, b, c, d⟩).a), .int .u32 (wv (Cha.quarter ⟨a, b, c, d⟩).b), .int .u32 (wv (Cha.quarter ⟨a, b, c, d⟩).c), .int .u32 (wv (Cha.quarter ⟨a, b, c, d⟩).d)]) ∧ Below w.heap.size w w' :=
  quarter_any ⟨a, b, c, d⟩ w
end Go.Proofs.YtnoilogepkelaaaDoor
namespace Go.Proofs.YtnoilogepkelaaaDoor
set_option linter.unusedVariables false
set_option linter.unusedSimpArgs false
open Go Go.RowKit
attribute [local go_sem] u32_add u32_sub u32_xor u32_or u32_and' u32_shl u32_shr u32_shl8 u32_shl16 u32_shl24 u8_to_u32 u32_to_u8

theorem chaword_any (v : Value) (xs : List (BitVec 8)) (w : World) (h : SlB w v xs) (hl : 4 ≤ xs.length) :
    Calls Tryd.prog 106 #[v] w fun e w' => e = .returned (.int .u32 (wv (Cha.le4 (xs.getD 0 0) (xs.getD 1 0) (xs.getD 2 0) (xs.getD 3 0)))) ∧ Below w.heap.size w w' := by
  rcases h with ⟨_, rfl⟩ | ⟨b, off, cap, rfl, h1, h2, h3, h4⟩
  · simp at hl
  · have c0 := h4 0 (by omega)
    have c1 := h4 1 (by omega)
    have c2 := h4 2 (by omega)
    have c3 := h4 3 (by omega)
    unfold byteV at c0 c1 c2 c3
    simp only [Nat.add_zero] at c0
    clear h4
    generalize xs.getD 0 0 = x0 at c0 ⊢
    generalize xs.getD 1 0 = x1 at c1 ⊢
    generalize xs.getD 2 0 = x2 at c2 ⊢
    generalize xs.getD 3 0 = x3 at c3 ⊢
    have l0 : (0 : Int) < (xs.length : Int) := by omega
    have l1 : (1 : Int) < (xs.length : Int) := by omega
    have l2 : (2 : Int) < (xs.length : Int) := by omega
    have l3 : (3 : Int) < (xs.length : Int) := by omega
    go_enter Tryd.func106, Tryd.ntmps106
    go_wp2_with fail
    go_quiet (fail)
    go_wp2
    go_ret
    exact ⟨rfl, Below.drewN (Below.refl _ _) _⟩
end Go.Proofs.YtnoilogepkelaaaDoor
namespace Go.Proofs.YtnoilogepkelaaaDoor
set_option linter.unusedVariables false
set_option linter.unusedSimpArgs false
open Go Go.RowKit
attribute [local go_sem] u32_add u32_sub u32_xor u32_or u32_and' u32_shl u32_shr


set_option maxHeartbeats 1000000 in
theorem double_any (b : Nat) (xs : List (BitVec 32)) (w : World) (hl : xs.length = 16) (hb : w.heap[b]? = some (.cells (words xs) 126 (0, 0))) :
    Calls Tryd.prog 103 #[.pointer (some ⟨b, 0, none⟩)] w fun e w' => e = .returned (.tuple #[]) ∧
      w'.heap[b]? = some (.cells (words (Cha.double xs)) 126 (0, 0)) ∧ w.grownBy w' (some b) := by
  have HB := Lib.hid hb
  have HL := Lib.hid hl
  clear hb hl
  go_enter Tryd.func103, Tryd.ntmps103
  go_wp2
  go_loopw [8] (fun i wr => ∃ k : Nat, k ≤ 8 ∧ i = .int .i64 k ∧ Hid (wr.heap[b]? = some (.cells (words (Cha.dsteps xs k)) 126 (0, 0))) ∧ w.grownBy wr (some b)) (fun i _ => 8 - (intOf i).toNat)
  case atStart => exact ⟨0, by omega, rfl, HB, World.grownBy.refl _ _⟩
  case round =>
    obtain ⟨k, hk, rfl, HBk, hg⟩ := hrel
    have HLk := Lib.hid ((Cha.dsteps_length xs k).trans HL.out)
    by_cases hlt : k < 8
    · have hfr : ∀ j, wr.frozen? ⟨b, j, none⟩ = false := fun j => frozen_of_row wr b j _ _ HBk.out
      have hcell : ∀ j, j < 16 → wr.cell? ⟨b, j, none⟩ = some (.int .u32 (wv ((Cha.dsteps xs k).getD j 0))) := fun j hj => (cell_of_row wr b j _ _ _ HBk.out).trans (words_get? _ j (by have := HLk.out; omega))
      have hbs : b < wr.heap.size := (Array.getElem?_eq_some_iff.1 HBk.out).1
      obtain ⟨p0, e0, n0, b0⟩ : ∃ p : Nat, ((k : Int) % 4) = p ∧ p = k % 4 ∧ p < 4 := ⟨k % 4, by omega, rfl, by omega⟩
      obtain ⟨p1, e1, n1, b1, b1'⟩ : ∃ p : Nat, (4 + ((k : Int) + (k : Int) / 4) % 4) = p ∧ p = 4 + (k % 4 + k / 4) % 4 ∧ 4 ≤ p ∧ p < 8 := ⟨_, by omega, rfl, by omega, by omega⟩
      obtain ⟨p2, e2, n2, b2, b2'⟩ : ∃ p : Nat, (8 + ((k : Int) + 2 * ((k : Int) / 4)) % 4) = p ∧ p = 8 + (k % 4 + 2 * (k / 4)) % 4 ∧ 8 ≤ p ∧ p < 12 := ⟨_, by omega, rfl, by omega, by omega⟩
      obtain ⟨p3, e3, n3, b3, b3'⟩ : ∃ p : Nat, (12 + ((k : Int) + 3 * ((k : Int) / 4)) % 4) = p ∧ p = 12 + (k % 4 + 3 * (k / 4)) % 4 ∧ 12 ≤ p ∧ p < 16 := ⟨_, by omega, rfl, by omega, by omega⟩
      have HS := Lib.hid (show Cha.dsteps xs (k + 1) = Cha.qstep (Cha.dsteps xs k) p0 p1 p2 p3 from by rw [n0, n1, n2, n3]; rfl)
      have E0 := Lib.hid e0
      have E1 := Lib.hid e1
      have E2 := Lib.hid e2
      have E3 := Lib.hid e3
      clear n0 n1 n2 n3 e0 e1 e2 e3
      have c0 := hcell p0 (by omega)
      have c1 := hcell p1 (by omega)
      have c2 := hcell p2 (by omega)
      have c3 := hcell p3 (by omega)
      have f0 := hfr p0
      have f1 := hfr p1
      have f2 := hfr p2
      have f3 := hfr p3
      clear hcell hfr
      generalize hx0 : (Cha.dsteps xs k).getD p0 0 = x0 at c0
      generalize hx1 : (Cha.dsteps xs k).getD p1 0 = x1 at c1
      generalize hx2 : (Cha.dsteps xs k).getD p2 0 = x2 at c2
      generalize hx3 : (Cha.dsteps xs k).getD p3 0 = x3 at c3
      have HX := Lib.hid (And.intro hx0 (And.intro hx1 (And.intro hx2 hx3)))
      clear hx0 hx1 hx2 hx3
      go_upto_region 5 with fail
      rw [E1.out, E2.out, E3.out, E0.out]
      have d0 := heap_alloc_new wr (.cells #[.int .i64 (p0 : Int), .int .i64 (p1 : Int), .int .i64 (p2 : Int), .int .i64 (p3 : Int)] 131)
      generalize hW : wr.alloc (.cells #[.int .i64 (p0 : Int), .int .i64 (p1 : Int), .int .i64 (p2 : Int), .int .i64 (p3 : Int)] 131) = W at d0 ⊢
      have hBW : Below wr.heap.size wr W := by rw [← hW]; exact (Below.refl _ _).alloc (Nat.le_refl _) _
      have hWs : wr.heap.size < W.heap.size := by rw [← hW]; simp
      clear hW
      rw [← hBW.cell (p := ⟨b, p0, none⟩) hbs] at c0
      rw [← hBW.cell (p := ⟨b, p1, none⟩) hbs] at c1
      rw [← hBW.cell (p := ⟨b, p2, none⟩) hbs] at c2
      rw [← hBW.cell (p := ⟨b, p3, none⟩) hbs] at c3
      rw [← hBW.frozen (p := ⟨b, p0, none⟩) hbs] at f0
      rw [← hBW.frozen (p := ⟨b, p1, none⟩) hbs] at f1
      rw [← hBW.frozen (p := ⟨b, p2, none⟩) hbs] at f2
      rw [← hBW.frozen (p := ⟨b, p3, none⟩) hbs] at f3
      have a0 : W.cell? ⟨wr.heap.size, 0, none⟩ = some (.int .i64 (p0 : Int)) := cell_of_row W _ 0 _ _ _ d0
      have a1 : W.cell? ⟨wr.heap.size, 1, none⟩ = some (.int .i64 (p1 : Int)) := cell_of_row W _ 1 _ _ _ d0
      have a2 : W.cell? ⟨wr.heap.size, 2, none⟩ = some (.int .i64 (p2 : Int)) := cell_of_row W _ 2 _ _ _ d0
      have a3 : W.cell? ⟨wr.heap.size, 3, none⟩ = some (.int .i64 (p3 : Int)) := cell_of_row W _ 3 _ _ _ d0
      have HD := Lib.hid d0
      clear d0
      have hbW : b < W.heap.size := by omega
      have i0 : (p0 : Int) < 16 := by omega
      have i1 : (p1 : Int) < 16 := by omega
      have i2 : (p2 : Int) < 16 := by omega
      have i3 : (p3 : Int) < 16 := by omega
      go_cut [5] (fun s5 wx => ∃ D : Nat, s5 = .pointer (some ⟨D, 0, none⟩) ∧ W.heap.size ≤ D ∧ Below W.heap.size W wx ∧
          Hid (wx.heap[D]? = some (.cells #[.int .u32 (wv (Cha.quarter ⟨x0, x1, x2, x3⟩).a), .int .u32 (wv (Cha.quarter ⟨x0, x1, x2, x3⟩).b), .int .u32 (wv (Cha.quarter ⟨x0, x1, x2, x3⟩).c), .int .u32 (wv (Cha.quarter ⟨x0, x1, x2, x3⟩).d)] 132 (0, 0))))
      case first =>
        go_region_held3 (fun w' => w'.cell? ⟨wr.heap.size, 0, none⟩ = some (.int .i64 (p0 : Int)) ∧ w'.cell? ⟨wr.heap.size, 1, none⟩ = some (.int .i64 (p1 : Int)) ∧ w'.cell? ⟨wr.heap.size, 2, none⟩ = some (.int .i64 (p2 : Int)) ∧ w'.cell? ⟨wr.heap.size, 3, none⟩ = some (.int .i64 (p3 : Int)) ∧
            w'.cell? ⟨b, p0, none⟩ = some (.int .u32 (wv x0)) ∧ w'.cell? ⟨b, p1, none⟩ = some (.int .u32 (wv x1)) ∧ w'.cell? ⟨b, p2, none⟩ = some (.int .u32 (wv x2)) ∧ w'.cell? ⟨b, p3, none⟩ = some (.int .u32 (wv x3)))
          (first | go_keep | ((try dsimp only); (repeat' apply And.intro) <;> (first | go_keep | (refine (Below.cell (B := W.heap.size) (w := W) ?_ (by assumption)).trans (by assumption); (repeat (first | with_reducible refine Below.setCell ?_ (by simp) _ | with_reducible refine Below.alloc ?_ (by have := hb2.size; simp at this ⊢ <;> omega) _)); (first | exact ((Below.refl _ W).drew).trans hb2 | exact (((Below.refl _ W).drew).alloc (Nat.le_refl _) _).trans (hb2.mono (by simp)) | exact (((Below.refl _ W).alloc (Nat.le_refl _) _).drew).trans (hb2.mono (by simp)))))))
          (first | (go_at_call 107; refine (quarter_agg x0 x1 x2 x3 _).mono ?_; rintro e w2 ⟨rfl, hb2⟩; obtain ⟨hc2, hf2⟩ := bcell hb2; have hz2 : wr.heap.size < w2.heap.size := Nat.lt_of_lt_of_le (by first | assumption | (simp; omega)) hb2.size; have hz3 : b < w2.heap.size := by omega))
        all_goals (go_wp2_with fail; go_meet)
        · refine ⟨w2.heap.size, rfl, by have := hb2.size; simpa using this, ?_, heap_alloc_new w2 _⟩
          exact (((Below.refl _ W).drew).trans hb2).alloc (by have := hb2.size; simpa using this) _
        · have h0 : w2.heap[W.heap.size]? = some (.cells #[.int .u32 0, .int .u32 0, .int .u32 0, .int .u32 0] 132 (0, 0)) := (hb2.block W.heap.size (by simp)).trans (heap_alloc_new W _)
          refine ⟨W.heap.size, rfl, Nat.le_refl _, ?_, heap_setCell_same _ _ 3 _ _ _ (heap_setCell_same _ _ 2 _ _ _ (heap_setCell_same _ _ 1 _ _ _ (heap_setCell_same _ _ 0 _ _ _ h0)))⟩
          repeat (first | with_reducible refine Below.setCell ?_ (by simp) _)
          exact (((Below.refl _ W).alloc (Nat.le_refl _) _).drew).trans (hb2.mono (by simp))
      case rest =>
        obtain ⟨D, rfl, hD, hbx, HQ⟩ := hcut
        rw [← hbx.cell (p := ⟨b, p0, none⟩) hbW] at c0
        rw [← hbx.cell (p := ⟨b, p1, none⟩) hbW] at c1
        rw [← hbx.cell (p := ⟨b, p2, none⟩) hbW] at c2
        rw [← hbx.cell (p := ⟨b, p3, none⟩) hbW] at c3
        rw [← hbx.frozen (p := ⟨b, p0, none⟩) hbW] at f0
        rw [← hbx.frozen (p := ⟨b, p1, none⟩) hbW] at f1
        rw [← hbx.frozen (p := ⟨b, p2, none⟩) hbW] at f2
        rw [← hbx.frozen (p := ⟨b, p3, none⟩) hbW] at f3
        rw [← hbx.cell (p := ⟨wr.heap.size, 0, none⟩) hWs] at a0
        rw [← hbx.cell (p := ⟨wr.heap.size, 1, none⟩) hWs] at a1
        rw [← hbx.cell (p := ⟨wr.heap.size, 2, none⟩) hWs] at a2
        rw [← hbx.cell (p := ⟨wr.heap.size, 3, none⟩) hWs] at a3
        have q0 : wc.cell? ⟨D, 0, none⟩ = some (.int .u32 (wv (Cha.quarter ⟨x0, x1, x2, x3⟩).a)) := cell_of_row wc D 0 _ _ _ HQ.out
        have q1 : wc.cell? ⟨D, 1, none⟩ = some (.int .u32 (wv (Cha.quarter ⟨x0, x1, x2, x3⟩).b)) := cell_of_row wc D 1 _ _ _ HQ.out
        have q2 : wc.cell? ⟨D, 2, none⟩ = some (.int .u32 (wv (Cha.quarter ⟨x0, x1, x2, x3⟩).c)) := cell_of_row wc D 2 _ _ _ HQ.out
        have q3 : wc.cell? ⟨D, 3, none⟩ = some (.int .u32 (wv (Cha.quarter ⟨x0, x1, x2, x3⟩).d)) := cell_of_row wc D 3 _ _ _ HQ.out
        have hDb : ¬ D = b := by omega
        have hDb' : ¬ b = D := by omega
        have ix := fun (i : Int) (h0 : 0 ≤ i) (h1 : i < 4) => run_index_row (P := Tryd.prog) Tryd.underlying131 Tryd.underlying3 rfl (by kernel_rfl) #[.int .i64 (p0 : Int), .int .i64 (p1 : Int), .int .i64 (p2 : Int), .int .i64 (p3 : Int)] rfl i h0 h1
        have ix0 := ix 0 (by decide) (by decide)
        have ix1 := ix 1 (by decide) (by decide)
        have ix2 := ix 2 (by decide) (by decide)
        have ix3 := ix 3 (by decide) (by decide)
        simp at ix0 ix1 ix2 ix3
        clear ix
        go_wp2
        refine wp_loop_rounds 5 ?_
        rw [rounds_succ]
        go_wp2
        go_region
        go_wp2
        rw [rounds_succ]
        go_wp2
        go_region
        go_wp2
        rw [rounds_succ]
        go_wp2
        go_region
        go_wp2
        rw [rounds_succ]
        go_wp2
        go_region
        go_wp2
        rw [rounds_succ]
        go_wp2
        go_roundw
        case rel =>
          have hbc := (hbx.block b hbW).trans ((hBW.block b hbs).trans HBk.out)
          have h4 := heap_setCell_same _ b p3 _ _ (.int .u32 (wv (Cha.quarter ⟨x0, x1, x2, x3⟩).d)) (heap_setCell_same _ b p2 _ _ (.int .u32 (wv (Cha.quarter ⟨x0, x1, x2, x3⟩).c)) (heap_setCell_same _ b p1 _ _ (.int .u32 (wv (Cha.quarter ⟨x0, x1, x2, x3⟩).b)) (heap_setCell_same _ b p0 _ _ (.int .u32 (wv (Cha.quarter ⟨x0, x1, x2, x3⟩).a)) hbc)))
          rw [words_set, words_set, words_set, words_set] at h4
          have hgw := grownBy_below (grownBy_below hg hBW (Nat.le_refl _)) hbx (Nat.le_refl _)
          refine ⟨k + 1, by omega, by go_num, ?_, grownBy_drew (grownBy_drew (grownBy_drew (grownBy_drew (grownBy_setCell (grownBy_setCell (grownBy_setCell (grownBy_setCell hgw _) _) _) _))))⟩
          obtain ⟨rfl, rfl, rfl, rfl⟩ := HX.out
          rw [HS.out]
          exact h4
        case measure => simp [intOf]; omega
    · obtain rfl : k = 8 := by omega
      go_wp2
      go_end0
      exact ⟨rfl, HBk.out, hg⟩
end Go.Proofs.YtnoilogepkelaaaDoor
namespace Go.Proofs.YtnoilogepkelaaaDoor
set_option linter.unusedVariables false
set_option linter.unusedSimpArgs false
open Go Go.RowKit
attribute [local go_sem] shape?_at shape?_past markS_drew markS_size markS_cell


set_option maxHeartbeats 1000000 in
theorem begin_any (key nonce : List (BitVec 8)) (c : BitVec 32) (w : World) (hk : key.length = 32) (hn : nonce.length = 12) :
    Calls Tryd.prog 102 #[.agg (bytes key), .int .u32 (wv c), .agg (bytes nonce)] w fun e w' => e = .returned (.agg (words (Cha.begin key c nonce))) ∧ Below w.heap.size w w' := by
  have HK := Lib.hid hk
  have HN := Lib.hid hn
  obtain ⟨kb, hkb⟩ : ∃ kb, bytes key = kb := ⟨_, rfl⟩
  obtain ⟨nb, hnb⟩ : ∃ nb, bytes nonce = nb := ⟨_, rfl⟩
  rw [hkb, hnb]
  have HKB := Lib.hid hkb
  have HNB := Lib.hid hnb
  clear hk hn hkb hnb
  have kc := fun (w : World) (b o n c : Nat) => run_convert_same (P := Tryd.prog) w 22 5 b o n c Tryd.underlying22 Tryd.underlying5
  have hmk : ∀ w, (Instr.makeSlice 22 (.int .i64 4) (.int .i64 4)).run Tryd.prog w = .ok (.slice (some ⟨w.heap.size, 0, none⟩) 4 4) (w.alloc (.cells #[.int .u8 0, .int .u8 0, .int .u8 0, .int .u8 0] 5)) := fun _ => by kernel_rfl
  go_enter Tryd.func102, Tryd.ntmps102
  go_upto_region 1 with fail
  obtain ⟨W, hW, hBW, hWs, hWk, hWn, hWo⟩ := alloc3 w (Obj.cells kb 32) (Obj.cells nb 119) (Obj.cells (words (List.replicate 16 0)) 126)
  have hW' := hW
  simp only [words, List.replicate, List.map] at hW'
  rw [show (Value.int .u32 (wv 0)) = .int .u32 0 from rfl] at hW'
  rw [hW']
  have HWk := Lib.hid hWk
  have HWn := Lib.hid hWn
  have HWo := Lib.hid hWo
  have HWs := Lib.hid hWs
  have hz1 : w.heap.size + 2 < W.heap.size := by omega
  clear hWk hWn hWs hWo hW hW'
  have HSk : SlB W (.slice (some ⟨w.heap.size, 0, none⟩) 32 32) key := SlB.ofRow (C := kb) (by rw [← HKB.out, bytes_toList]) HK.out.symm (by omega) (fun j => cell_of_row W _ j _ _ _ HWk.out) (by rw [HK.out]; exact Nat.le_refl _) (by decide)
  have HSn : SlB W (.slice (some ⟨w.heap.size + 1, 0, none⟩) 12 12) nonce := SlB.ofRow (C := nb) (by rw [← HNB.out, bytes_toList]) HN.out.symm (by omega) (fun j => cell_of_row W _ j _ _ _ HWn.out) (by rw [HN.out]; exact Nat.le_refl _) (by decide)
  go_cut [7] (fun s7 wx => ∃ g cap, s7 = .slice (some ⟨g, 0, none⟩) 64 cap ∧ 64 ≤ cap ∧ W.heap.size ≤ g ∧ g < wx.heap.size ∧ SlB wx (.slice (some ⟨g, 0, none⟩) 64 cap) (Cha.head ++ key ++ [0, 0, 0, 0] ++ nonce) ∧ Below W.heap.size W wx)
  case first =>
    go_region_with (go_at_call 63; go_loud (refine Calls.mono (concat4 _ _ _ _ _ _ Cha.head key [0, 0, 0, 0] nonce _ _ (heapA_new _ _ _ (by simp [markS_size])) (SlB.ofRow (C := (bcells Cha.head).toArray) rfl rfl (by first | (simp [markS_size]; done) | (simp [markS_size]; omega)) (fun j => by simp (disch := first | (simp [markS_size]; done) | (simp [markS_size]; omega)) [markS_cell, World.cell?_alloc_at, World.cell?_alloc_past, Cha.head, bcells, byteV, bv]) (by decide) (by decide)) (HSk.below (B := W.heap.size) (by repeat (first | with_reducible exact Below.refl _ _ | with_reducible refine Below.drew ?_ | with_reducible refine Below.markS ?_ _ (by simp) | with_reducible refine Below.alloc ?_ (by first | (simp [markS_size]; done) | (simp [markS_size]; omega)) _)) (Nat.le_refl _)) (SlB.ofRow (C := (bcells [0, 0, 0, 0]).toArray) rfl rfl (by first | (simp [markS_size]; done) | (simp [markS_size]; omega)) (fun j => by simp (disch := first | (simp [markS_size]; done) | (simp [markS_size]; omega)) [markS_cell, World.cell?_alloc_at, World.cell?_alloc_past, bcells, byteV, bv]) (by decide) (by decide)) (HSn.below (B := W.heap.size) (by repeat (first | with_reducible exact Below.refl _ _ | with_reducible refine Below.drew ?_ | with_reducible refine Below.markS ?_ _ (by simp) | with_reducible refine Below.alloc ?_ (by first | (simp [markS_size]; done) | (simp [markS_size]; omega)) _)) (Nat.le_refl _)) (by rw [HK.out, HN.out]; decide)) ?_; rintro e w1 ⟨v, rfl, hv, hb1⟩))
    all_goals (go_wp2_with fail; go_meet)
    all_goals obtain ⟨g, cap, rfl, hgb, hgl, hcap, hsl⟩ := hv.form 64 (by simp [Cha.head, HK.out, HN.out]) (by omega)
    all_goals refine ⟨g, cap, rfl, hcap, by (have := hgb; simp [markS_size] at this; omega), hgl, hsl, Below.trans ?_ (hb1.mono (by first | (simp [markS_size]; done) | (simp [markS_size]; omega)))⟩
    all_goals repeat (first | with_reducible exact Below.refl _ _ | with_reducible refine Below.drew ?_ | with_reducible refine Below.markS ?_ _ (by simp) | with_reducible refine Below.alloc ?_ (by first | (simp [markS_size]; done) | (simp [markS_size]; omega)) _)
  case rest =>
    obtain ⟨g, cap, rfl, hcap, hg0', hg1, hs, hb1⟩ := hcut
    have hg0 : w.heap.size + 2 < g := by omega
    have hall := Lib.hid (show Cha.begin key c nonce = ((List.range 16).map (Cha.wordAt (Cha.head ++ key ++ [0, 0, 0, 0] ++ nonce))).set 12 c from rfl)
    have hlen := Lib.hid (show (Cha.head ++ key ++ [0, 0, 0, 0] ++ nonce).length = 64 by simp [Cha.head, HK.out, HN.out])
    generalize Cha.head ++ key ++ [0, 0, 0, 0] ++ nonce = all at hs hall hlen
    have hst := Lib.hid ((hb1.block (w.heap.size + 2) hz1).trans HWo.out)
    have hbw := hBW.trans (hb1.mono (by omega))
    clear HWk HWn HWo HSk HSn HKB HNB hb1
    have hB : w.heap.size + 2 < W.heap.size := hz1
    go_wp2
    go_loopw [16] (fun i wr => ∃ k : Nat, k ≤ 16 ∧ i = .int .i64 k ∧ Hid (wr.heap[w.heap.size + 2]? = some (.cells (words (fill (Cha.wordAt all) 0 16 k)) 126 (0, 0))) ∧ w.heap.size + 2 < g ∧ g < wr.heap.size ∧
        SlB wr (.slice (some ⟨g, 0, none⟩) 64 cap) all ∧ Below w.heap.size w wr) (fun i _ => 16 - (intOf i).toNat)
    case atStart => exact ⟨0, by omega, rfl, by rw [fill_zero]; exact hst, hg0, hg1, hs, hbw⟩
    case round =>
      obtain ⟨k, hk, rfl, HB, hgk, hgw, hsk, hbk⟩ := hrel
      by_cases hlt : k < 16
      · have hsd := hsk.drop (4 * k) (by omega)
        have hne : ¬ cap = 4 * k := by omega
        rw [Nat.zero_add] at hsd
        have hcw := chaword_any _ _ wr hsd (by simp [hlen.out]; omega)
        rw [show Cha.le4 ((all.drop (4 * k)).getD 0 0) ((all.drop (4 * k)).getD 1 0) ((all.drop (4 * k)).getD 2 0) ((all.drop (4 * k)).getD 3 0) = Cha.wordAt all k by simp [Cha.wordAt]] at hcw
        have HCW := Lib.hid hcw
        have HF := Lib.hid (fill_set (Cha.wordAt all) 0 16 k hlt)
        generalize hx : Cha.wordAt all k = x at HCW HF
        have hz := hbk.size
        clear hcw hx hsd
        go_wp2_with fail
        refine HCW.out.mono ?_
        rintro e w1 ⟨rfl, hb1⟩
        have hblk := (hb1.block (w.heap.size + 2) (by have := hbk.size; have := (Array.getElem?_eq_some_iff.1 HB.out).1; omega)).trans HB.out
        have hcell := (cell_of_row w1 (w.heap.size + 2) k _ _ _ hblk).trans (words_get? _ k (by rw [fill_length _ _ _ _ hk]; omega))
        have hfr := frozen_of_row w1 (w.heap.size + 2) k _ _ hblk
        have hset := heap_setCell_same w1 (w.heap.size + 2) k _ _ (.int .u32 (wv x)) hblk
        rw [words_set, HF.out] at hset
        have HSET := Lib.hid hset
        have hs1 := hsk.below hb1 (Nat.le_refl _)
        have hb2 := hbk.trans (hb1.mono hz)
        have hb1z := hb1.size
        generalize (fill (Cha.wordAt all) 0 16 k).getD k 0 = y at hcell
        clear hblk hset hb1 hsk
        go_wp2
        go_roundw
        case rel => exact ⟨k + 1, by omega, by go_num, HSET.out, hgk, by (have := hb1z; simp [World.setCell]; omega), hs1.setCell (by omega) _, hb2.setCell (by show w.heap.size ≤ w.heap.size + 1 + 1; omega) _⟩
        case measure => simp [intOf]; omega
      · obtain rfl : k = 16 := by omega
        rw [fill_all] at HB
        have hc12 := (cell_of_row wr (w.heap.size + 2) 12 _ _ _ HB.out).trans (words_get? _ 12 (by simp))
        have hf12 := frozen_of_row wr (w.heap.size + 2) 12 _ _ HB.out
        have hset := heap_setCell_same wr (w.heap.size + 2) 12 _ _ (.int .u32 (wv c)) HB.out
        rw [words_set, ← hall.out] at hset
        have HSET := Lib.hid hset
        have hlb : (Cha.begin key c nonce).length = 16 := by rw [hall.out]; simp
        have hi := Lib.hid (show (Tryd.prog.info? 126).map (·.size) = some (words (Cha.begin key c nonce)).size by rw [words_size, hlb]; kernel_rfl)
        generalize ((List.range 16).map (Cha.wordAt all)).getD 12 0 = y at hc12
        clear hset hlb HB hsk
        go_wp2_with (first
          | (refine wpList_load_row rfl 126 (.tmp 6) rfl (w.heap.size + 1 + 1) rfl _ _ _ _ HSET.out Tryd.underlying126 rfl hi.out ?_)
          | (refine wpList_store_row rfl 126 (.tmp 6) (.tmp 29) rfl (w.heap.size + 1 + 1) _ rfl rfl _ _ HSET.out hi.out rfl (words_one _) ?_; rw [setRow_self _ _ _ _ _ HSET.out]))
        refine bodyPost_ret (results_cell_row Tryd.results102 _ _ (w.heap.size + 1 + 1) _ _ _ _ rfl HSET.out Tryd.underlying126 rfl hi.out) rfl ⟨rfl, ?_⟩
        exact hbk.setCell (by show w.heap.size ≤ w.heap.size + 1 + 1; omega) _
end Go.Proofs.YtnoilogepkelaaaDoor
namespace Go.Proofs.YtnoilogepkelaaaDoor
set_option linter.unusedVariables false
set_option linter.unusedSimpArgs false
open Go Go.RowKit
attribute [local go_sem] u32_add u32_sub u32_xor u32_or u32_and' u32_shl u32_shr u32_shr8 u32_shr16 u32_shr24 u32_to_u8

theorem byteOf_div (x : BitVec 32) (j : Nat) : wv x / (2 ^ (8 * j) : Nat) % 256 = bv (Cha.byteOf x j) := by
  simp only [wv, bv, Cha.byteOf, BitVec.toNat_setWidth, BitVec.toNat_ushiftRight, Nat.shiftRight_eq_div_pow]
  omega

set_option maxRecDepth 100000 in
set_option maxHeartbeats 1000000 in
theorem cblock_any (key nonce : List (BitVec 8)) (c : BitVec 32) (w : World) (hk : key.length = 32) (hn : nonce.length = 12) :
    Calls Tryd.prog 100 #[.agg (bytes key), .int .u32 (wv c), .agg (bytes nonce)] w fun e w' => e = .returned (.agg (bytes (Cha.block key c nonce))) ∧ Below w.heap.size w w' := by
  have HCALL := Lib.hid (fun w => begin_any key nonce c w hk hn)
  have HIK := Lib.hid (show (Tryd.prog.info? 32).map (·.size) = some (bytes key).size by rw [bytes_size, hk]; kernel_rfl)
  have HIN := Lib.hid (show (Tryd.prog.info? 119).map (·.size) = some (bytes nonce).size by rw [bytes_size, hn]; kernel_rfl)
  have HL0 := Lib.hid (Cha.begin_length key c nonce)
  have HBL := Lib.hid (show Cha.block key c nonce = (List.range 64).map (Cha.outByte (Cha.rounds (Cha.begin key c nonce) 10) (Cha.begin key c nonce)) from rfl)
  generalize Cha.block key c nonce = blk at HBL ⊢
  generalize Cha.begin key c nonce = s0 at HCALL HL0 HBL
  generalize bytes key = kb at HCALL HIK ⊢
  generalize bytes nonce = nb at HCALL HIN ⊢
  have HI := Lib.hid (fun (s : List (BitVec 32)) (h : s.length = 16) => (show (Tryd.prog.info? 126).map (·.size) = some (words s).size by rw [words_size, h]; kernel_rfl))
  clear hk hn
  go_enter Tryd.func100, Tryd.ntmps100
  go_upto_region 1 with fail
  obtain ⟨W, hW, hBW, hWs, hWk, hWn, hWo⟩ := alloc3 w (Obj.cells kb 32) (Obj.cells nb 119) (Obj.cells (bytes (List.replicate 64 0)) 29)
  have hW' := hW
  simp only [bytes, List.replicate, List.map] at hW'
  rw [show (Value.int .u8 (bv 0)) = .int .u8 0 from rfl] at hW'
  rw [hW']
  have HWk := Lib.hid hWk
  have HWn := Lib.hid hWn
  have HWo := Lib.hid hWo
  have hz1 : w.heap.size + 2 < W.heap.size := by omega
  clear hWk hWn hWs hWo hW hW'
  go_wp2_with (first
    | (refine wpList_load_row rfl 32 (.tmp 3) rfl (w.heap.size) rfl _ _ _ _ HWk.out Tryd.underlying32 rfl HIK.out ?_)
    | (refine wpList_load_row rfl 119 (.tmp 5) rfl (w.heap.size + 1) rfl _ _ _ _ HWn.out Tryd.underlying119 rfl HIN.out ?_)
    | (go_at_call 102; refine (HCALL.out _).mono ?_; rintro e w1 ⟨rfl, hb1⟩)
    | (refine wpList_store_row rfl 126 (.tmp 7) (.tmp 15) rfl _ _ rfl rfl _ _ (heap_alloc_new _ _) (HI.out _ HL0.out) (by rw [words_size, HL0.out]; rfl) (words_one _) ?_; rw [World.setRow_alloc_new])
    | (refine wpList_load_row rfl 126 (.tmp 7) rfl _ rfl _ _ _ _ (heap_alloc_new _ _) Tryd.underlying126 rfl (HI.out _ HL0.out) ?_)
    | (refine wpList_store_row rfl 126 (.tmp 8) (.tmp 16) rfl _ _ rfl rfl _ _ (heapA_new _ _ _ (by simp)) (HI.out _ HL0.out) (by rw [words_size, HL0.out]; rfl) (words_one _) ?_; rw [setRow_at _ _ _ _ _ (by simp)]))
  obtain ⟨X, hX, hBX, hXs, hX0, hX1⟩ := alloc2 w1 (Obj.cells (words s0) 126) (Obj.cells (words s0) 126)
  rw [hX]
  have hOX := (hBX.block (w.heap.size + 2) (by have := hb1.size; omega)).trans ((hb1.block (w.heap.size + 2) hz1).trans HWo.out)
  have hwX := (hBW.trans (hb1.mono (by omega))).trans (hBX.mono (by have := hb1.size; omega))
  have H0 := Lib.hid hX0
  have H1 := Lib.hid hX1
  have HO := Lib.hid hOX
  have hw1 : w.heap.size + 3 ≤ w1.heap.size := by have := hb1.size; omega
  generalize w1.heap.size = D at H0 H1 hw1 hXs ⊢
  have hz2 : D + 2 ≤ X.heap.size := by omega
  clear hX hBX hX0 hX1 hOX hb1 hBW HWo HWk HWn hz1 hXs
  go_loopw [17] (fun i wr => ∃ k : Nat, k ≤ 10 ∧ i = .int .i64 k ∧ Hid (wr.heap[D + 1]? = some (.cells (words (Cha.rounds s0 k)) 126 (0, 0))) ∧ Hid (wr.heap[D]? = some (.cells (words s0) 126 (0, 0))) ∧
      Hid (wr.heap[w.heap.size + 2]? = some (.cells (bytes (List.replicate 64 0)) 29 (0, 0))) ∧ Below w.heap.size w wr ∧ D + 2 ≤ wr.heap.size) (fun i _ => 10 - (intOf i).toNat)
  case atStart => exact ⟨0, by omega, rfl, H1, H0, HO, hwX, hz2⟩
  case round =>
    obtain ⟨k, hk, rfl, HE, HD, HZ, hbk, hzk⟩ := hrel
    by_cases hlt : k < 10
    · go_wp2_with (go_at_call 103; refine (double_any (D + 1) _ _ ((Cha.rounds_length s0 k).trans HL0.out) HE.out).mono ?_; rintro e w2 ⟨rfl, hE2, hg2⟩)
      have HE2 := Lib.hid hE2
      clear hE2
      go_roundw
      case rel =>
        refine ⟨k + 1, by omega, by go_num, HE2.out, (hg2.block D (by omega) (by simp)).trans HD.out, (hg2.block (w.heap.size + 2) (by omega) (by simp; omega)).trans HZ.out, ?_, by have := hg2.size; omega⟩
        exact hbk.grown hg2 (by have := hbk.size; omega) (by intro j hj; simp at hj; omega)
      case measure => simp [intOf]; omega
    · obtain rfl : k = 10 := by omega
      have HLs := Lib.hid ((Cha.rounds_length s0 10).trans HL0.out)
      generalize Cha.rounds s0 10 = s at HE HBL HLs
      go_wp2_with (refine wpList_load_row rfl 126 (.tmp 8) rfl (D + 1) rfl _ _ _ _ HE.out Tryd.underlying126 rfl (HI.out _ HLs.out) ?_)
      go_loopw [22] (fun i wr => ∃ k : Nat, k ≤ 16 ∧ i = .int .i64 k ∧ Hid (wr.heap[D]? = some (.cells (words s0) 126 (0, 0))) ∧
          Hid (wr.heap[w.heap.size + 2]? = some (.cells (bytes (fill (Cha.outByte s s0) 0 64 (4 * k))) 29 (0, 0))) ∧ Below w.heap.size w wr) (fun i _ => 16 - (intOf i).toNat)
      case atStart => exact ⟨0, by omega, rfl, HD, HZ, hbk⟩
      case round =>
        clear HE HD HZ hbk hzk
        obtain ⟨k, hk, rfl, HD, HZ, hbk⟩ := hrel
        by_cases hlt : k < 16
        · have hix := run_index_row (P := Tryd.prog) Tryd.underlying126 Tryd.underlying25 rfl (by kernel_rfl) (words s) (by rw [words_size]; exact HLs.out) (k : Int) (by omega) (by omega)
          rw [Int.toNat_natCast, Array.getD_eq_getD_getElem?, words_get? s k (by rw [HLs.out]; exact hlt), Option.getD_some] at hix
          have hc := (cell_of_row _ D k _ _ _ HD.out).trans (words_get? s0 k (by rw [HL0.out]; exact hlt))
          have hfl := Lib.hid (fill_length (Cha.outByte s s0) 0 64 (4 * k) (by omega))
          have hO := fun j (hj : j < 4) => (cell_of_row wr (w.heap.size + 2) (4 * k + j) _ _ _ HZ.out).trans (bytes_get? _ (4 * k + j) (by rw [hfl.out]; omega))
          have o0 := (cell_of_row wr (w.heap.size + 2) (4 * k) _ _ _ HZ.out).trans (bytes_get? _ (4 * k) (by rw [hfl.out]; omega))
          have o1 := hO 1 (by omega)
          have o2 := hO 2 (by omega)
          have o3 := hO 3 (by omega)
          have f0 := frozen_of_row wr (w.heap.size + 2) (4 * k) _ _ HZ.out
          have f1 := frozen_of_row wr (w.heap.size + 2) (4 * k + 1) _ _ HZ.out
          have f2 := frozen_of_row wr (w.heap.size + 2) (4 * k + 2) _ _ HZ.out
          have f3 := frozen_of_row wr (w.heap.size + 2) (4 * k + 3) _ _ HZ.out
          generalize (fill (Cha.outByte s s0) 0 64 (4 * k)).getD (4 * k) 0 = z0 at o0
          generalize (fill (Cha.outByte s s0) 0 64 (4 * k)).getD (4 * k + 1) 0 = z1 at o1
          generalize (fill (Cha.outByte s s0) 0 64 (4 * k)).getD (4 * k + 2) 0 = z2 at o2
          generalize (fill (Cha.outByte s s0) 0 64 (4 * k)).getD (4 * k + 3) 0 = z3 at o3
          have HB := Lib.hid (Cha.outByte_at s s0 k)
          have HF := Lib.hid (fun j (h : j < 64) => fill_set (Cha.outByte s s0) 0 64 j h)
          clear hO
          generalize s.getD k 0 = x at hix HB
          generalize s0.getD k 0 = y at hc HB
          have hDO : ¬ w.heap.size + 2 = D := by omega
          go_wp2
          refine wp_loop_rounds 5 ?_
          iterate 5
            rw [rounds_succ]
            go_wp2
          have HS : ∀ (u : World) (j o : Nat) (v : Int), j < 4 → o = 4 * k + j → v = bv (Cha.byteOf (x + y) j) → u.heap[w.heap.size + 2]? = some (.cells (bytes (fill (Cha.outByte s s0) 0 64 (4 * k + j))) 29 (0, 0)) →
              (u.setCell ⟨w.heap.size + 1 + 1, o, none⟩ (.int .u8 v)).heap[w.heap.size + 2]? = some (.cells (bytes (fill (Cha.outByte s s0) 0 64 (4 * k + (j + 1)))) 29 (0, 0)) := by
            intro u j o v hj ho hv hu
            subst ho
            have h := heap_setCell_same u (w.heap.size + 2) (4 * k + j) _ _ (.int .u8 v) hu
            rw [hv, bytes_set, ← HB.out j hj, HF.out _ (by omega)] at h
            rw [hv, ← HB.out j hj]
            exact h
          refine ⟨⟨k + 1, by omega, by go_num, ?_, ?_, ?_⟩, by simp [intOf]; omega⟩
          · rw [heap_setCell_other _ _ _ _ (by simp; omega), heap_setCell_other _ _ _ _ (by simp; omega), heap_setCell_other _ _ _ _ (by simp; omega), heap_setCell_other _ _ _ _ (by simp; omega)]
            exact HD
          · rw [show 4 * (k + 1) = 4 * k + (3 + 1) by omega]
            refine Lib.hid ?_
            refine HS _ 3 _ _ (by omega) (by omega) (byteOf_div (x + y) 3) ?_
            refine HS _ 2 _ _ (by omega) (by omega) (byteOf_div (x + y) 2) ?_
            refine HS _ 1 _ _ (by omega) (by omega) (byteOf_div (x + y) 1) ?_
            refine HS _ 0 _ _ (by omega) (by omega) (by simp [Cha.byteOf]) ?_
            exact HZ.out
          · repeat (first | with_reducible exact hbk | with_reducible refine Below.setCell ?_ (by show w.heap.size ≤ w.heap.size + 1 + 1; omega) _)
        · obtain rfl : k = 16 := by omega
          rw [show 4 * 16 = 64 from rfl, fill_all, ← HBL.out] at HZ
          have hbl : blk.length = 64 := by rw [HBL.out]; simp
          have hi := Lib.hid (show (Tryd.prog.info? 29).map (·.size) = some (bytes blk).size by rw [bytes_size, hbl]; kernel_rfl)
          go_wp2_with (first
            | (refine wpList_load_row rfl 29 (.tmp 6) rfl (w.heap.size + 1 + 1) rfl _ _ _ _ HZ.out Tryd.underlying29 rfl hi.out ?_)
            | (refine wpList_store_row rfl 29 (.tmp 6) (.tmp 46) rfl (w.heap.size + 1 + 1) _ rfl rfl _ _ HZ.out hi.out rfl (bytes_one _) ?_; rw [setRow_self _ _ _ _ _ HZ.out]))
          exact bodyPost_ret (results_cell_row Tryd.results100 _ _ (w.heap.size + 1 + 1) _ _ _ _ rfl HZ.out Tryd.underlying29 rfl hi.out) rfl ⟨rfl, hbk⟩
end Go.Proofs.YtnoilogepkelaaaDoor
namespace Go.Proofs.YtnoilogepkelaaaDoor.Cha
set_option linter.unusedVariables false
set_option linter.unusedSimpArgs false

/-- Byte j of what is xored. -/
def keyAt (key : List (BitVec 8)) (c : BitVec 32) (nonce : List (BitVec 8)) (j : Nat) : BitVec 8 := (block key (c + BitVec.ofNat 32 (j / 64)) nonce).getD (j % 64) 0
def stream (key : List (BitVec 8)) (c : BitVec 32) (nonce : List (BitVec 8)) (b : List (BitVec 8)) : List (BitVec 8) :=
  (List.range b.length).map fun j => b.getD j 0 ^^^ keyAt key c nonce j
/-- Is there a counter for each block? -/
def fits (c : BitVec 32) (n : Nat) : Bool := decide (n = 0) || decide (c.toNat + (n - 1) / 64 < 4294967296)
theorem stream_length (key : List (BitVec 8)) (c : BitVec 32) (nonce b : List (BitVec 8)) : (stream key c nonce b).length = b.length := by simp [stream]
theorem stream_getD (key : List (BitVec 8)) (c : BitVec 32) (nonce b : List (BitVec 8)) (j : Nat) (h : j < b.length) : (stream key c nonce b).getD j 0 = b.getD j 0 ^^^ keyAt key c nonce j := by
  simp [stream, List.getD, h]
theorem ext_getD {xs ys : List (BitVec 8)} (hl : xs.length = ys.length) (h : ∀ j, j < xs.length → xs.getD j 0 = ys.getD j 0) : xs = ys := by
  apply List.ext_getElem?
  intro j
  by_cases hj : j < xs.length
  · have := h j hj
    rw [List.getElem?_eq_getElem hj, List.getElem?_eq_getElem (by omega)]
    simpa [List.getD, hj, show j < ys.length by omega] using this
  · rw [List.getElem?_eq_none (by omega), List.getElem?_eq_none (by omega)]
theorem getD_take (b : List (BitVec 8)) (k j : Nat) (h : j < k) : (b.take k).getD j 0 = b.getD j 0 := by simp [List.getD, h]
theorem getD_drop (b : List (BitVec 8)) (k j : Nat) : (b.drop k).getD j 0 = b.getD (k + j) 0 := by simp [List.getD]
theorem stream_back (key : List (BitVec 8)) (c : BitVec 32) (nonce b : List (BitVec 8)) : stream key c nonce (stream key c nonce b) = b := by
  refine ext_getD (by simp [stream_length]) fun j hj => ?_
  rw [stream_length, stream_length] at hj
  rw [stream_getD _ _ _ _ _ (by rw [stream_length]; exact hj), stream_getD _ _ _ _ _ hj]
  generalize keyAt key c nonce j = y
  generalize b.getD j 0 = z
  rw [BitVec.xor_assoc, BitVec.xor_self, BitVec.xor_zero]
theorem stream_take (key : List (BitVec 8)) (c : BitVec 32) (nonce b : List (BitVec 8)) (k : Nat) : stream key c nonce (b.take k) = (stream key c nonce b).take k := by
  refine ext_getD (by simp [stream_length]) fun j hj => ?_
  rw [stream_length, List.length_take] at hj
  rw [stream_getD key c nonce (b.take k) j (by rw [List.length_take]; exact hj), getD_take b _ _ (by omega), getD_take (stream key c nonce b) _ _ (by omega), stream_getD key c nonce b j (by omega)]
theorem stream_drop (key : List (BitVec 8)) (c : BitVec 32) (nonce b : List (BitVec 8)) (k : Nat) : stream key (c + BitVec.ofNat 32 k) nonce (b.drop (64 * k)) = (stream key c nonce b).drop (64 * k) := by
  refine ext_getD (by simp [stream_length]) fun j hj => ?_
  rw [stream_length, List.length_drop] at hj
  rw [stream_getD _ _ _ _ _ (by rw [List.length_drop]; exact hj), getD_drop, getD_drop, stream_getD _ _ _ _ _ (by omega)]
  have e : keyAt key (c + BitVec.ofNat 32 k) nonce j = keyAt key c nonce (64 * k + j) := by
    unfold keyAt
    rw [show (64 * k + j) / 64 = k + j / 64 by omega, show (64 * k + j) % 64 = j % 64 by omega, BitVec.ofNat_add, BitVec.add_assoc]
  rw [e]
theorem fits_take (c : BitVec 32) (n k : Nat) (h : fits c n = true) (hk : k ≤ n) : fits c k = true := by
  simp only [fits, Bool.or_eq_true, decide_eq_true_eq] at h ⊢
  omega
theorem fits_drop (c : BitVec 32) (n k : Nat) (h : fits c n = true) (hk : 64 * k < n) : fits (c + BitVec.ofNat 32 k) (n - 64 * k) = true := by
  simp only [fits, Bool.or_eq_true, decide_eq_true_eq] at h ⊢
  right
  have h' : c.toNat + (n - 1) / 64 < 4294967296 := by omega
  rw [BitVec.toNat_add, BitVec.toNat_ofNat]
  have e1 : k % 2 ^ 32 = k := Nat.mod_eq_of_lt (by omega)
  rw [e1, Nat.mod_eq_of_lt (by omega)]
  omega
/-- So many bytes of a stream, block by block. -/
theorem stream_succ (key : List (BitVec 8)) (c : BitVec 32) (nonce b : List (BitVec 8)) (k : Nat) (h : 64 * k < b.length) :
    (stream key c nonce b).take (64 * (k + 1)) = (stream key c nonce b).take (64 * k) ++ (List.range (min 64 (b.length - 64 * k))).map fun j => b.getD (64 * k + j) 0 ^^^ (block key (c + BitVec.ofNat 32 k) nonce).getD j 0 := by
  refine ext_getD (by rw [List.length_append, List.length_take, List.length_take, stream_length, List.length_map, List.length_range]; omega) fun j hj => ?_
  rw [List.length_take, stream_length] at hj
  rw [getD_take _ _ _ (by omega), stream_getD _ _ _ _ _ (by omega)]
  by_cases h1 : j < 64 * k
  · simp only [List.getD]
    rw [List.getElem?_append_left (by rw [List.length_take, stream_length]; omega), List.getElem?_take, if_pos h1]
    have := stream_getD key c nonce b j (by omega)
    simp only [List.getD] at this
    rw [this]
  · simp only [List.getD]
    rw [List.getElem?_append_right (by rw [List.length_take, stream_length]; omega), List.length_take, stream_length, show min (64 * k) b.length = 64 * k by omega, List.getElem?_map, List.getElem?_range (by omega), Option.map_some, Option.getD_some]
    unfold keyAt
    rw [show j / 64 = k by omega, show j % 64 = j - 64 * k by omega]
    simp only [List.getD]
    rw [show 64 * k + (j - 64 * k) = j by omega]
end Go.Proofs.YtnoilogepkelaaaDoor.Cha
namespace Go.Proofs.YtnoilogepkelaaaDoor.Cha
set_option linter.unusedVariables false
set_option linter.unusedSimpArgs false

/-- So many bytes from o on are changed by those of a block. -/
def xorN (blk : List (BitVec 8)) (o n : Nat) (l : List (BitVec 8)) : List (BitVec 8) :=
  (List.range l.length).map fun j => if o ≤ j ∧ j < o + n then l.getD j 0 ^^^ blk.getD (j - o) 0 else l.getD j 0
theorem xorN_length (blk : List (BitVec 8)) (o n : Nat) (l : List (BitVec 8)) : (xorN blk o n l).length = l.length := by simp [xorN]
theorem xorN_getD (blk : List (BitVec 8)) (o n : Nat) (l : List (BitVec 8)) (j : Nat) (h : j < l.length) : (xorN blk o n l).getD j 0 = if o ≤ j ∧ j < o + n then l.getD j 0 ^^^ blk.getD (j - o) 0 else l.getD j 0 := by
  simp [xorN, List.getD, h]
theorem xorN_zero (blk : List (BitVec 8)) (o : Nat) (l : List (BitVec 8)) : xorN blk o 0 l = l := by
  refine ext_getD (xorN_length _ _ _ _) fun j hj => ?_
  rw [xorN_length] at hj
  rw [xorN_getD _ _ _ _ _ hj, if_neg (by omega)]
theorem xorN_succ (blk : List (BitVec 8)) (o n : Nat) (l : List (BitVec 8)) (h : o + n < l.length) : xorN blk o (n + 1) l = (xorN blk o n l).set (o + n) (l.getD (o + n) 0 ^^^ blk.getD n 0) := by
  refine ext_getD (by rw [List.length_set, xorN_length, xorN_length]) fun j hj => ?_
  rw [xorN_length] at hj
  rw [xorN_getD _ _ _ _ _ hj]
  have hs : ((xorN blk o n l).set (o + n) (l.getD (o + n) 0 ^^^ blk.getD n 0)).getD j 0 = if o + n = j then l.getD (o + n) 0 ^^^ blk.getD n 0 else (xorN blk o n l).getD j 0 := by
    simp only [List.getD, List.getElem?_set]
    by_cases e : o + n = j
    · rw [if_pos e, if_pos e, if_pos (by rw [xorN_length]; omega)]; rfl
    · rw [if_neg e, if_neg e]
  rw [hs]
  by_cases e : o + n = j
  · subst e
    rw [if_pos rfl, if_pos (by omega), show o + n - o = n by omega]
  · rw [if_neg e, xorN_getD _ _ _ _ _ hj]
    by_cases h1 : o ≤ j ∧ j < o + n
    · rw [if_pos h1, if_pos (by omega)]
    · rw [if_neg h1, if_neg (by omega)]
theorem xorN_min (blk : List (BitVec 8)) (o n : Nat) (l : List (BitVec 8)) : xorN blk o (min n (l.length - o)) l = xorN blk o n l := by
  refine ext_getD (by rw [xorN_length, xorN_length]) fun j hj => ?_
  rw [xorN_length] at hj
  rw [xorN_getD _ _ _ _ _ hj, xorN_getD _ _ _ _ _ hj]
  by_cases h1 : o ≤ j ∧ j < o + n
  · rw [if_pos h1, if_pos (by omega)]
  · rw [if_neg h1, if_neg (by omega)]
/-- What a round of the loop makes of the counter and the bytes: of block k. -/
def cstep (key nonce : List (BitVec 8)) (s : BitVec 32 × List (BitVec 8)) (k : Nat) : BitVec 32 × List (BitVec 8) := (s.1 + 1, xorN (block key s.1 nonce) (64 * k) 64 s.2)
def crun (key nonce : List (BitVec 8)) (c : BitVec 32) (b : List (BitVec 8)) (ks : List Nat) : BitVec 32 × List (BitVec 8) := ks.foldl (cstep key nonce) (c, b)
theorem crun_snoc (key nonce : List (BitVec 8)) (c : BitVec 32) (b : List (BitVec 8)) (ks : List Nat) (k : Nat) : crun key nonce c b (ks ++ [k]) = cstep key nonce (crun key nonce c b ks) k := by simp [crun]
theorem crun_length (key nonce : List (BitVec 8)) (c : BitVec 32) (b : List (BitVec 8)) (ks : List Nat) : (crun key nonce c b ks).2.length = b.length := by
  suffices h : ∀ s : BitVec 32 × List (BitVec 8), (ks.foldl (cstep key nonce) s).2.length = s.2.length from h _
  induction ks with
  | nil => exact fun _ => rfl
  | cons k ks ih => exact fun s => (ih _).trans (xorN_length _ _ _ _)
theorem crun_range (key nonce : List (BitVec 8)) (c : BitVec 32) (b : List (BitVec 8)) (n : Nat) :
    (crun key nonce c b (List.range n)).1 = c + BitVec.ofNat 32 n ∧ ∀ j, j < b.length → (crun key nonce c b (List.range n)).2.getD j 0 = if j < 64 * n then (stream key c nonce b).getD j 0 else b.getD j 0 := by
  induction n with
  | zero => exact ⟨by simp [crun], fun j _ => by rw [if_neg (by omega)]; rfl⟩
  | succ n ih =>
    rw [List.range_succ, crun_snoc]
    refine ⟨by show _ + 1 = _; rw [ih.1, BitVec.ofNat_add, BitVec.add_assoc]; rfl, fun j hj => ?_⟩
    show (xorN _ _ _ _).getD j 0 = _
    rw [xorN_getD _ _ _ _ _ (by rw [crun_length]; exact hj), ih.1, ih.2 j hj]
    by_cases h1 : j < 64 * n
    · rw [if_neg (by omega), if_pos h1, if_pos (by omega)]
    · by_cases h2 : j < 64 * (n + 1)
      · rw [if_pos (by omega), if_neg h1, if_pos h2, stream_getD _ _ _ _ _ hj]
        unfold keyAt
        rw [show j / 64 = n by omega, show j % 64 = j - 64 * n by omega]
      · rw [if_neg (by omega), if_neg h1, if_neg h2]
theorem crun_all (key nonce : List (BitVec 8)) (c : BitVec 32) (b : List (BitVec 8)) : (crun key nonce c b (List.range ((b.length + 63) / 64))).2 = stream key c nonce b := by
  refine ext_getD (by rw [crun_length, stream_length]) fun j hj => ?_
  rw [crun_length] at hj
  rw [(crun_range key nonce c b _).2 j hj, if_pos (by omega)]
end Go.Proofs.YtnoilogepkelaaaDoor.Cha
namespace Go.Proofs.YtnoilogepkelaaaDoor
set_option linter.unusedVariables false
set_option linter.unusedSimpArgs false
open Go Go.RowKit Go.Shelf
attribute [local go_sem] u32_add u32_sub u32_xor u32_or u32_and' u32_shl u32_shr u32_shr8 u32_shr16 u32_shr24 u32_to_u8 u8_xor' Oper.semAt_some

/-- Between two rounds: the key, the counter, the nonce, the bytes of the call's own. -/
structure StI (w : World) (B g n cap : Nat) (key nonce : List (BitVec 8)) (c : BitVec 32) (l : List (BitVec 8)) (W : World) : Prop where
  size : B ≤ W.heap.size
  key : W.heap[w.heap.size]? = some (.cells (bytes key) 32 (0, 0))
  ctr : W.heap[w.heap.size + 1]? = some (.cells #[.int .u32 (wv c)] 25 (0, 0))
  nonce : W.heap[w.heap.size + 2]? = some (.cells (bytes nonce) 119 (0, 0))
  own : OwnB 5 (w.heap.size + 3) W (.slice (some ⟨g, 0, none⟩) n cap) l
  below : Below w.heap.size w W
theorem OwnB.keptG {E base g n cap : Nat} {l : List Nat} {w w' : World} {xs : List (BitVec 8)} (h : OwnB E base w (.slice (some ⟨g, 0, none⟩) n cap) xs) (hk : Kept l w w') (hg : g ∉ l) : OwnB E base w' (.slice (some ⟨g, 0, none⟩) n cap) xs := by
  refine ⟨h.1, ?_⟩
  rcases h.2 with hn | ⟨g', cap', cur, e, h1, hb, h2⟩
  · exact .inl hn
  · have e' := e
    simp only [Value.slice.injEq, Option.some.injEq, Addr.mk.injEq] at e'
    obtain rfl : g = g' := e'.1.1
    refine .inr ⟨g, cap', cur, e, h1, ?_, h2⟩
    rw [hk.block g (Array.getElem?_eq_some_iff.1 hb).1 hg]
    exact hb
theorem OwnB.ltg {E base g n cap : Nat} {w : World} {xs : List (BitVec 8)} (h : OwnB E base w (.slice (some ⟨g, 0, none⟩) n cap) xs) : g < w.heap.size ∧ base ≤ g := by
  rcases h.2 with ⟨hn, _⟩ | ⟨g', cap', cur, e, h1, hb, h2⟩
  · cases hn
  · simp only [Value.slice.injEq, Option.some.injEq, Addr.mk.injEq] at e
    obtain rfl : g = g' := e.1.1
    exact ⟨(Array.getElem?_eq_some_iff.1 hb).1, h1⟩
theorem StI.kept {w : World} {B g n cap : Nat} {key nonce : List (BitVec 8)} {c : BitVec 32} {l : List (BitVec 8)} {W W' : World} {r : List Nat} (h : StI w B g n cap key nonce c l W) (hk : Kept r W W') (hB : w.heap.size + 3 ≤ B) (hr : ∀ k, k ∈ r → B ≤ k) (hg : g < B) : StI w B g n cap key nonce c l W' := by
  have hs := h.size
  refine ⟨by have := hk.size; omega, (hk.block _ (by omega) (fun hm => by have := hr _ hm; omega)).trans h.key, (hk.block _ (by omega) (fun hm => by have := hr _ hm; omega)).trans h.ctr, (hk.block _ (by omega) (fun hm => by have := hr _ hm; omega)).trans h.nonce, h.own.keptG hk (fun hm => by have := hr _ hm; omega), h.below.trans (hk.toBelow (fun k hm => by have := hr _ hm; omega) (by omega))⟩
theorem kept_of_grown {B : Nat} {W W' : World} {row : Option Nat} (hg : W.grownBy W' row) (hr : ∀ r, row = some r → B ≤ r) : ∃ l : List Nat, Kept l W W' ∧ ∀ k, k ∈ l → B ≤ k := by
  refine ⟨row.toList, ⟨hg.os, hg.tape, hg.output, hg.size, fun k hk hl => hg.block k hk (fun e => hl (by rw [← e]; simp))⟩, fun k hk => hr k (by simpa using hk)⟩
theorem StI.ownFrom {w : World} {B g n cap : Nat} {key nonce : List (BitVec 8)} {c0 : BitVec 32} {l0 : List (BitVec 8)} (hB : w.heap.size + 3 ≤ B) (hg : g < B) :
    OwnFrom B (fun (pre : List (Blk n)) W => StI w B g n cap key nonce (Cha.crun key nonce c0 l0 (pre.map (·.1))).1 (Cha.crun key nonce c0 l0 (pre.map (·.1))).2 W) := by
  intro s W W' row hs hg' hr
  obtain ⟨l, hk, hl⟩ := kept_of_grown hg' (fun r e => (hr r e).1)
  exact hs.kept hk hB hl hg

theorem StI.put {w : World} {B g n cap : Nat} {key nonce : List (BitVec 8)} {c : BitVec 32} {l : List (BitVec 8)} {W : World} (h : StI w B g n cap key nonce c l W) (j : Nat) (hj : j < l.length) (x : BitVec 8) : StI w B g n cap key nonce c (l.set j x) (W.setCell ⟨g, j, none⟩ (.int .u8 (bv x))) := by
  have hg := h.own.ltg
  have hk : Kept [g] W (W.setCell ⟨g, j, none⟩ (.int .u8 (bv x))) := (Kept.refl [g] W).setCell (by simp) _
  have hs : w.heap.size + 3 ≤ W.heap.size := by omega
  exact ⟨Nat.le_trans h.size hk.size, (hk.block _ (by omega) (by simp; omega)).trans h.key, (hk.block _ (by omega) (by simp; omega)).trans h.ctr, (hk.block _ (by omega) (by simp; omega)).trans h.nonce, h.own.set_cell j hj x, h.below.trans (hk.toBelow (by simp; omega) (by omega))⟩
theorem StI.drew {w : World} {B g n cap : Nat} {key nonce : List (BitVec 8)} {c : BitVec 32} {l : List (BitVec 8)} {W : World} (h : StI w B g n cap key nonce c l W) : StI w B g n cap key nonce c l W.drew :=
  ⟨h.size, h.key, h.ctr, h.nonce, h.own.keptG (Kept.refl [] W).drew (by simp), h.below.drew⟩
theorem StI.count {w : World} {B g n cap : Nat} {key nonce : List (BitVec 8)} {c : BitVec 32} {l : List (BitVec 8)} {W : World} (h : StI w B g n cap key nonce c l W) (c' : BitVec 32) : StI w B g n cap key nonce c' l (W.setCell ⟨w.heap.size + 1, 0, none⟩ (.int .u32 (wv c'))) := by
  have hg := h.own.ltg
  have hk : Kept [w.heap.size + 1] W (W.setCell ⟨w.heap.size + 1, 0, none⟩ (.int .u32 (wv c'))) := (Kept.refl _ W).setCell (by simp) _
  have hs : w.heap.size + 3 ≤ W.heap.size := by omega
  refine ⟨Nat.le_trans h.size hk.size, (hk.block _ (by omega) (by simp)).trans h.key, ?_, (hk.block _ (by omega) (by simp)).trans h.nonce, h.own.keptG hk (by simp; omega), h.below.trans (hk.toBelow (by simp) (by omega))⟩
  exact heap_setCell_same W _ 0 _ _ _ h.ctr
theorem KeepsFrom.ofKept {l : List Nat} {B : Nat} {W W' : World} (h : Kept l W W') (hl : ∀ k, k ∈ l → k < B) : KeepsFrom B W W' :=
  ⟨h.size, fun k o hB hk _ => (h.block k (Array.getElem?_eq_some_iff.1 hk).1 (fun hm => by have := hl k hm; omega)).trans hk⟩

set_option maxRecDepth 100000 in
set_option maxHeartbeats 4000000 in
theorem stream_err (key nonce b : List (BitVec 8)) (c : BitVec 32) (v : Value) (w : World) (hs : SlB w v b) (hk : key.length = 32) (hn : nonce.length = 12) (hl : b.length ≤ 100000000) (hf : Cha.fits c b.length = false) :
    Calls Tryd.prog 94 #[.agg (bytes key), .int .u32 (wv c), .agg (bytes nonce), v] w fun e w' => e = .returned (.tuple #[.slice none 0 0, .int .i64 13]) ∧ Below w.heap.size w w' := by
  obtain ⟨a, cap, rfl⟩ := hs.len
  have c0 := wv_nonneg c
  have c1 := wv_lt c
  have h0 : 0 < b.length := by simp [Cha.fits] at hf; omega
  have h1 : 4294967295 < wv c + ((b.length : Int) - 1) / 64 := by simp [Cha.fits] at hf; unfold wv; omega
  generalize bytes key = kb
  generalize bytes nonce = nb
  generalize wv c = cv at *
  clear hf hs
  refine (callsIn_wide (n := 3)).1 ?_
  refine callsIn_of_wp_marks Tryd.func94 rfl trivial ?_ rfl
  simp only [Tryd.ntmps94, List.size_toArray, List.length_cons, List.length_nil, Nat.reduceAdd, Nat.reduceSub, Array.replicate_succ, Array.replicate_zero, List.push_toArray, List.append_toArray, List.nil_append, List.cons_append]
  gi_wp2
  exact ⟨_, by simp [results, Tryd.results94, go_sem], rfl, (((Below.refl _ w).alloc (Nat.le_refl _) _).alloc (by simp) _).alloc (by simp <;> omega) _⟩

set_option maxRecDepth 100000 in
set_option maxHeartbeats 4000000 in
theorem stream_ok (key nonce b : List (BitVec 8)) (c : BitVec 32) (v : Value) (w : World) (hs : SlB w v b) (hk : key.length = 32) (hn : nonce.length = 12) (hl : b.length ≤ 100000000) (h0 : 0 < b.length) (hf : Cha.fits c b.length = true) :
    Calls Tryd.prog 94 #[.agg (bytes key), .int .u32 (wv c), .agg (bytes nonce), v] w fun e w' => ∃ v', e = .returned (.tuple #[v', .int .i64 0]) ∧ OwnB 5 w.heap.size w' v' (Cha.stream key c nonce b) ∧ Below w.heap.size w w' := by
  obtain ⟨a, cap, rfl⟩ := hs.len
  have c0 := wv_nonneg c
  have c1 := wv_lt c
  have hb0 : b ≠ [] := by intro e; rw [e] at h0; simp at h0
  have h1 : wv c + ((b.length : Int) - 1) / 64 ≤ 4294967295 := by simp [Cha.fits, hb0] at hf; unfold wv; omega
  have HS := Lib.hid hs
  have HK := Lib.hid hk
  have HN := Lib.hid hn
  clear hf hs hk hn hb0
  obtain ⟨cv, hcv⟩ : ∃ cv, cv = wv c := ⟨_, rfl⟩
  obtain ⟨kb, hkb⟩ : ∃ kb, kb = bytes key := ⟨_, rfl⟩
  obtain ⟨nb, hnb⟩ : ∃ nb, nb = bytes nonce := ⟨_, rfl⟩
  obtain ⟨n, hbn⟩ : ∃ n, n = b.length := ⟨_, rfl⟩
  rw [← hcv] at c0 c1 h1
  rw [← hbn] at h0 h1 hl
  rw [← hcv, ← hkb, ← hnb, ← hbn]
  refine (callsIn_wide (n := 5)).1 ?_
  refine callsIn_of_wp_marks Tryd.func94 rfl trivial ?_ rfl
  simp only [Tryd.ntmps94, List.size_toArray, List.length_cons, List.length_nil, Nat.reduceAdd, Nat.reduceSub, Array.replicate_succ, Array.replicate_zero, List.push_toArray, List.append_toArray, List.nil_append, List.cons_append]
  obtain ⟨W, hW, hB1, hz1, hk1, hc1, hn1⟩ := alloc3 w (.cells kb 32) (.cells #[.int .u32 cv] 25) (.cells nb 119)
  have HX := Lib.hid (And.intro hB1 (And.intro hz1 (And.intro hk1 (And.intro hc1 hn1))))
  have HS1 := Lib.hid (HS.out.below hB1 (Nat.le_refl _))
  have HW := Lib.hid hW
  have HLK := Lib.hid hl
  rw [← hbn] at HS1
  have HE := Lib.hid (And.intro hcv (And.intro hkb (And.intro hnb hbn)))
  clear hB1 hz1 hk1 hc1 hn1 hW HS hcv hkb hnb hbn
  gi_wp2_with (first
    | (refine ⟨trivial, ?_⟩; gi_at_call 95; rw [HW.out]; refine (callsIn_wide.2 (clone_any _ b W HS1.out (by have := HE.out.2.2.2; omega))).mono ?_; rintro e w1 ⟨v1, rfl, ho, hb⟩; obtain ⟨g, cap1, rfl, hg, hgl, hcap, hsl⟩ := ho.form n HE.out.2.2.2.symm h0; have HO := Lib.hid ho; have HB := Lib.hid hb; clear ho hb hsl)
    | (refine ⟨trivial, ?_⟩; gi_at_call 89; refine (callsIn_wide.2 (chunk_any _ _ _ _)).mono ?_; rintro e w2 ⟨rfl, hb, hz, hc1, hc2⟩; have HB2 := Lib.hid hb; have HC := Lib.hid (And.intro hc1 hc2); clear hb hc1 hc2))
  have hsz2 : w2.heap.size = w1.heap.size + 2 := hz
  have hst : StI w w2.heap.size g n cap1 key nonce c b w2 := by
    obtain ⟨h1, h2, h3, h4, h5⟩ := HX.out
    obtain ⟨e1, e2, e3, e4⟩ := HE.out
    have hs1 := HB.out.size
    have b12 : Below W.heap.size W w2 := HB.out.trans (HB2.out.mono hs1)
    rw [e1] at h4
    rw [e2] at h3
    rw [e3] at h5
    refine ⟨Nat.le_refl _, (b12.block _ (by omega)).trans h3, (b12.block _ (by omega)).trans h4, (b12.block _ (by omega)).trans h5, ?_, h1.trans (b12.mono (by omega))⟩
    have := HO.out.below HB2.out (Nat.le_refl _)
    rwa [h2] at this
  have hw3 : w.heap.size + 3 ≤ w1.heap.size := by have := HX.out.2.1; have := HB.out.size; omega
  have hg3 : w.heap.size + 3 ≤ g := by have := HX.out.2.1; omega
  refine wpIn_rangeFunc_ownG rfl (by omega) (gf := 97) (lb := #[.pointer (some ⟨w1.heap.size, 0, none⟩), .pointer (some ⟨w1.heap.size + 1, 0, none⟩)]) rfl trivial (enters_of Tryd.func97 (by kernel_rfl) rfl)
    (chunk_stops Fence.wide _ trivial rfl (by omega) w1.heap.size (w1.heap.size + 1) g 0 n _ (.inr ⟨cap1, rfl, hcap, by omega⟩) w2 (by omega) (by omega) HC.out.1 HC.out.2) keepsTwo_t (keepsTwo_b (by omega) (by omega)) (Below.refl _ _) (fun _ => rfl)
    (fun (pre : List (Blk n)) W => StI w w2.heap.size g n cap1 key nonce (Cha.crun key nonce c b (pre.map (·.1))).1 (Cha.crun key nonce c b (pre.map (·.1))).2 W)
    (fun _ _ _ => False)
    (StI.ownFrom (by omega) (by omega))
    (fun _ _ _ _ _ hs _ _ => hs)
    hst
    (fun x => { tmps := #[Value.agg kb, Value.int IntKind.u32 cv, Value.agg nb, Value.slice a n cap,
          Value.pointer (some { block := w.heap.size, off := 0 }),
          Value.pointer (some { block := w.heap.size + 1, off := 0 }),
          Value.pointer (some { block := w.heap.size + 1 + 1, off := 0 }), undef, Value.slice none 0 0,
          Value.int IntKind.i64 0, Value.slice (some { block := g, off := 0 }) n cap1, chunkV g 0 n x.1, undef, undef,
          Value.slice a n cap, Value.int IntKind.i64 n, Value.bool true, Value.bool true, Value.int IntKind.u32 cv,
          Value.int IntKind.u64 cv, Value.slice a n cap, Value.int IntKind.i64 n, Value.int IntKind.i64 (n - 1),
          Value.int IntKind.i64 (((n : Int) - 1) / 64), Value.int IntKind.u64 (((n : Int) - 1) / 64),
          Value.int IntKind.u64 (cv + ((n : Int) - 1) / 64), Value.bool (decide (4294967295 < cv + ((n : Int) - 1) / 64)),
          Value.bool (decide (4294967295 < cv + ((n : Int) - 1) / 64)), Value.slice a n cap,
          Value.slice (some { block := g, off := 0 }) n cap1, Value.slice (some { block := g, off := 0 }) n cap1,
          Value.func (Fn.func 97) #[]
            #[Value.pointer (some { block := w1.heap.size, off := 0 }),
              Value.pointer (some { block := w1.heap.size + 1, off := 0 })],
          chunkV g 0 n x.1, undef, undef, undef, undef, undef, undef, undef, undef, undef, undef, undef, undef, undef, undef,
          undef, undef, undef, undef, undef, undef, undef, undef], defers := [] }) ?assign ?body ?done ?stop
  case assign =>
    intro l x W K hK
    gi_wp2
    exact hK
  case body =>
    rintro l pre x W hI _
    obtain ⟨k, hkn⟩ := x
    obtain ⟨ck, lk, hcl⟩ : ∃ ck lk, Cha.crun key nonce c b (pre.map (·.1)) = (ck, lk) := ⟨_, _, rfl⟩
    have hlk : lk.length = n := by have := Cha.crun_length key nonce c b (pre.map (·.1)); rw [hcl] at this; exact this.trans HE.out.2.2.2.symm
    have hnext : Cha.crun key nonce c b ((pre ++ [(⟨k, hkn⟩ : Blk n)]).map (·.1)) = (ck + 1, Cha.xorN (Cha.block key ck nonce) (64 * k) 64 lk) := by rw [List.map_append]; exact (Cha.crun_snoc _ _ _ _ _ _).trans (by rw [hcl]; rfl)
    rw [hcl] at hI
    have HCL := Lib.hid hcl
    have HLK2 := Lib.hid hlk
    have hb := fun W => cblock_any key nonce ck W HK.out HN.out
    rw [← HE.out.2.1, ← HE.out.2.2.1] at hb
    have HBK := Lib.hid hb
    have hbl := Cha.block_length key ck nonce
    have HBKL := Lib.hid hbl
    obtain ⟨blk, hblk⟩ : ∃ blk, blk = Cha.block key ck nonce := ⟨_, rfl⟩
    rw [← hblk] at HBK HBKL hnext
    have HNX := Lib.hid hnext
    have HBLK := Lib.hid hblk
    have cC : W.cell? ⟨w.heap.size + 1, 0, none⟩ = some (.int .u32 (wv ck)) := (cell_of_row _ _ _ _ _ _ hI.ctr).trans rfl
    have rK := hI.key
    have rN := hI.nonce
    rw [← HE.out.2.1] at rK
    rw [← HE.out.2.2.1] at rN
    have RK := Lib.hid rK
    have RN := Lib.hid (show W.heap[w.heap.size + 1 + 1]? = _ from rN)
    have HI := Lib.hid hI
    have IK := Lib.hid (show (Tryd.prog.info? 32).map (·.size) = some kb.size by rw [HE.out.2.1, bytes_size, HK.out]; kernel_rfl)
    have IN := Lib.hid (show (Tryd.prog.info? 119).map (·.size) = some nb.size by rw [HE.out.2.2.1, bytes_size, HN.out]; kernel_rfl)
    have IB := Lib.hid (show (Tryd.prog.info? 29).map (·.size) = some (bytes blk).size by rw [bytes_size, HBKL.out]; kernel_rfl)
    have ZB := Lib.hid (show (bytes (List.replicate 64 0)).size = (bytes blk).size by rw [bytes_size, bytes_size, HBKL.out]; rfl)
    obtain ⟨m, hm⟩ : ∃ m, m = min 64 (n - 64 * k) := ⟨_, rfl⟩
    have ev : chunkV g 0 n k = .slice (some ⟨g, 64 * k, none⟩) m m := by rw [chunkV, ← hm, Nat.zero_add]
    simp only [ev]
    have HM := Lib.hid hm
    clear hcl hnext hb hbl hblk rK rN hI hm ev hlk
    gi_wp2_with (first
      | (refine wpListIn_load_row rfl 32 (.tmp 4) rfl (w.heap.size) rfl _ _ _ _ RK.out Tryd.underlying32 rfl IK.out ?_)
      | (refine wpListIn_load_row rfl 119 (.tmp 6) rfl (w.heap.size + 1 + 1) rfl _ _ _ _ RN.out Tryd.underlying119 rfl IN.out ?_)
      | (refine ⟨trivial, ?_⟩; gi_at_call 100; refine (CallsIn.inRound l (callsIn_wide.2 (HBK.out _))).mono ?_; rintro e w3 ⟨rfl, hb3⟩; have HB3 := Lib.hid hb3; clear hb3)
      | (refine wpListIn_store_row rfl 29 (.tmp 12) (.tmp 36) rfl _ _ rfl rfl _ _ (heap_alloc_new _ _) IB.out ZB.out (bytes_one _) ?_; rw [World.setRow_alloc_new]))
    have hz3 := HB3.out.size
    have hsW := HI.out.size
    have hX : ∃ X, w3.alloc (.cells (bytes blk) 29) = X ∧ Below W.heap.size W X ∧ X.heap.size = w3.heap.size + 1 ∧ X.heap[w3.heap.size]? = some (.cells (bytes blk) 29 (0, 0)) :=
      ⟨_, rfl, HB3.out.trans (((Below.refl _ w3).alloc (Nat.le_refl _) _).mono hz3), by simp, heap_alloc_new _ _⟩
    obtain ⟨X, hX, hBX, hXs, hXb⟩ := hX
    rw [hX]
    have HX2 := Lib.hid hBX
    have HXB := Lib.hid hXb
    have hgB : g < w2.heap.size := by omega
    have HSX := Lib.hid (HI.out.kept (Kept.ofBelow (l := []) hBX (Nat.le_refl _)) (by omega) (by simp) hgB)
    generalize w3.heap.size = D at *
    clear hX hBX hXb
    gi_loopw [39] (fun s wr => ∃ i : Nat, i ≤ m ∧ s = .int .i64 i ∧ Hid (StI w w2.heap.size g n cap1 key nonce ck (Cha.xorN blk (64 * k) i lk) wr) ∧ Hid (wr.heap[D]? = some (.cells (bytes blk) 29 (0, 0))) ∧ Hid (Kept [g] X wr)) (fun s _ => m - (intOf s).toNat)
    case atStart => exact ⟨0, Nat.zero_le _, rfl, by rw [Cha.xorN_zero]; exact HSX, HXB, Lib.hid (Kept.refl _ _)⟩
    case round =>
      clear HSX HXB
      obtain ⟨i, him, rfl, HSI, HDB, HKP⟩ := hrel
      by_cases hlt : i < m
      · have hmm := HM.out
        have hj : 64 * k + i < lk.length := by rw [HLK2.out]; omega
        obtain ⟨x, hx⟩ : ∃ x, x = lk.getD (64 * k + i) 0 := ⟨_, rfl⟩
        obtain ⟨y, hy⟩ : ∃ y, y = blk.getD i 0 := ⟨_, rfl⟩
        have cg : wr.cell? ⟨g, 64 * k + i, none⟩ = some (.int .u8 (bv x)) := by
          rw [HSI.out.own.get_cell (64 * k + i) (by rw [Cha.xorN_length]; exact hj), Cha.xorN_getD _ _ _ _ _ hj, if_neg (by omega), hx]; rfl
        have fg : wr.frozen? ⟨g, 64 * k + i, none⟩ = false := HSI.out.own.not_frozen _
        have cb : wr.cell? ⟨D, i, none⟩ = some (.int .u8 (bv y)) := (cell_of_row _ _ _ _ _ _ HDB.out).trans (by rw [bytes_get? _ _ (by rw [HBKL.out]; omega), hy])
        have hi64 : i < 64 := by omega
        have hgD : g ≠ D := by have := HB3.out.size; omega
        have hn1 : StI w w2.heap.size g n cap1 key nonce ck (Cha.xorN blk (64 * k) (i + 1) lk) (wr.setCell ⟨g, 64 * k + i, none⟩ (.int .u8 (bv (x ^^^ y)))).drew := by
          rw [Cha.xorN_succ _ _ _ _ hj, hx, hy]
          exact (HSI.out.put _ (by rw [Cha.xorN_length]; exact hj) _).drew
        have HN1 := Lib.hid hn1
        have HN2 := Lib.hid (show (wr.setCell ⟨g, 64 * k + i, none⟩ (.int .u8 (bv (x ^^^ y)))).drew.heap[D]? = some (.cells (bytes blk) 29 (0, 0)) from (heap_setCell_other wr ⟨g, 64 * k + i, none⟩ D _ (fun e => hgD e.symm)).trans HDB.out)
        have HN3 := Lib.hid (show Kept [g] X (wr.setCell ⟨g, 64 * k + i, none⟩ (.int .u8 (bv (x ^^^ y)))).drew from (HKP.out.setCell (by simp) _).drew)
        clear hmm hj hx hy hn1
        have hmx : Tryd.prog.follows .mixedOrders = true := by kernel_rfl
        gi_wp2
        gi_region_o
        all_goals (gi_wp2; exact ⟨⟨i + 1, by omega, by go_num, HN1, HN2, HN3⟩, by simp [intOf]; omega⟩)
      · obtain rfl : i = m := by omega
        have cC2 : wr.cell? ⟨w.heap.size + 1, 0, none⟩ = some (.int .u32 (wv ck)) := (cell_of_row _ _ _ _ _ _ HSI.out.ctr).trans rfl
        have fC2 : wr.frozen? ⟨w.heap.size + 1, 0, none⟩ = false := frozen_of_row _ _ _ _ _ HSI.out.ctr
        have hadd : IntKind.u32.wrap (wv ck + 1) = wv (ck + 1) := u32_add ck 1
        gi_wp2
        have hmm := HM.out
        have hx : Cha.xorN blk (64 * k) i lk = Cha.xorN blk (64 * k) 64 lk := by rw [hmm, ← HLK2.out, Cha.xorN_min]
        have hgw := HSI.out.own.ltg
        have hkf : Kept [w.heap.size + 1, g] W (wr.setCell ⟨w.heap.size + 1, 0, none⟩ (.int .u32 (wv (ck + 1)))) :=
          (((Kept.ofBelow (l := []) HX2.out (Nat.le_refl _)).mono (by simp)).trans (HKP.out.mono (by simp))).setCell (by simp) _
        refine ⟨KeepsFrom.ofKept hkf (by simp; omega), ⟨hkf.block _ (by omega) (by simp; omega), hkf.block _ (by omega) (by simp; omega)⟩, ?_⟩
        show StI w w2.heap.size g n cap1 key nonce (Cha.crun key nonce c b ((pre ++ [(⟨k, hkn⟩ : Blk n)]).map (·.1))).1 (Cha.crun key nonce c b ((pre ++ [(⟨k, hkn⟩ : Blk n)]).map (·.1))).2 _
        rw [HNX.out]
        have := HSI.out.count (ck + 1)
        rw [hx] at this
        exact this
  case done =>
    rintro D ys W hD hys hI hK
    have e := HE.out.2.2.2
    rw [hys, show (n + 63) / 64 = (b.length + 63) / 64 by rw [e], Cha.crun_all] at hI
    clear e
    have HI := Lib.hid hI
    have HD := Lib.hid hD
    clear hI hD hys
    gi_wp2
    refine ⟨by simp, .inl ⟨_, _, rfl, run_takeDeferred hK, ?_⟩⟩
    obtain ⟨l, hkp, hl⟩ := kept_of_grown (grownBy_putObj' W D (.deferred none)) (fun r e => by cases e; exact HD.out)
    have hI2 := HI.out.kept hkp (by omega) hl (by omega)
    exact ⟨_, by simp [results, Tryd.results94, go_sem], _, rfl, hI2.own.mono (by omega), hI2.below⟩
  case stop =>
    rintro D c pre W _ _ h _
    exact h.elim
end Go.Proofs.YtnoilogepkelaaaDoor
namespace Go.Proofs.YtnoilogepkelaaaDoor
set_option linter.unusedVariables false
set_option linter.unusedSimpArgs false
open Go Go.RowKit Go.Shelf
attribute [local go_sem] Oper.semAt_some

theorem OwnB.keptO {E base : Nat} {l : List Nat} {w w' : World} {v : Value} {xs : List (BitVec 8)} (h : OwnB E base w v xs) (hk : Kept l w w') (hl : ∀ k, v.ownBlock = some k → k ∉ l) : OwnB E base w' v xs := by
  refine ⟨h.1, ?_⟩
  rcases h.2 with hn | ⟨g, cap, cur, rfl, h1, hb, h2⟩
  · exact .inl hn
  · refine .inr ⟨g, cap, cur, rfl, h1, ?_, h2⟩
    rw [hk.block g (Array.getElem?_eq_some_iff.1 hb).1 (hl g rfl)]
    exact hb
theorem OwnB.form0 {E base : Nat} {w : World} {v : Value} (h : OwnB E base w v []) : ∃ g a cap, v = .slice a 0 cap ∧ SlForm v g 0 0 ∧ ∀ k, v.ownBlock = some k → k < w.heap.size := by
  rcases h.2 with ⟨rfl, _⟩ | ⟨g, cap, cur, rfl, h1, hb, _⟩
  · exact ⟨0, _, _, rfl, .inl ⟨rfl, rfl⟩, fun k hk => by cases hk⟩
  · exact ⟨g, _, _, rfl, .inr ⟨cap, rfl, Nat.zero_le _, by omega⟩, fun k hk => by simp only [Value.ownBlock, Option.some.injEq] at hk; subst hk; exact (Array.getElem?_eq_some_iff.1 hb).1⟩

set_option maxRecDepth 100000 in
set_option maxHeartbeats 4000000 in
theorem stream_nil (key nonce : List (BitVec 8)) (c : BitVec 32) (v : Value) (w : World) (hs : SlB w v []) :
    Calls Tryd.prog 94 #[.agg (bytes key), .int .u32 (wv c), .agg (bytes nonce), v] w fun e w' => ∃ v', e = .returned (.tuple #[v', .int .i64 0]) ∧ OwnB 5 w.heap.size w' v' [] ∧ Below w.heap.size w w' := by
  obtain ⟨a, cap, rfl⟩ := hs.len
  have HS := Lib.hid hs
  clear hs
  generalize wv c = cv
  generalize bytes key = kb
  generalize bytes nonce = nb
  refine (callsIn_wide (n := 5)).1 ?_
  refine callsIn_of_wp_marks Tryd.func94 rfl trivial ?_ rfl
  simp only [Tryd.ntmps94, List.size_toArray, List.length_cons, List.length_nil, Nat.reduceAdd, Nat.reduceSub, Array.replicate_succ, Array.replicate_zero, List.push_toArray, List.append_toArray, List.nil_append, List.cons_append]
  obtain ⟨W, hW, hB1, hz1, hk1, hc1, hn1⟩ := alloc3 w (.cells kb 32) (.cells #[.int .u32 cv] 25) (.cells nb 119)
  have HX := Lib.hid hB1
  have HS1 := Lib.hid (HS.out.below hB1 (Nat.le_refl _))
  have HW := Lib.hid hW
  clear hB1 hk1 hc1 hn1 hW HS
  gi_wp2_with (first
    | (refine ⟨trivial, ?_⟩; gi_at_call 95; rw [HW.out]; refine (callsIn_wide.2 (clone_any _ [] W HS1.out (by simp))).mono ?_; rintro e w1 ⟨v1, rfl, ho, hb⟩; obtain ⟨g, a1, cap1, rfl, hf, hg⟩ := ho.form0; have HO := Lib.hid ho; have HB := Lib.hid hb; have HF := Lib.hid hf; have HG := Lib.hid hg; clear ho hb hf hg)
    | (refine ⟨trivial, ?_⟩; gi_at_call 89; refine (callsIn_wide.2 (chunk_any _ _ _ _)).mono ?_; rintro e w2 ⟨rfl, hb, hz, hc1, hc2⟩; have HB2 := Lib.hid hb; have HC := Lib.hid (And.intro hc1 hc2); clear hb hc1 hc2))
  have hz0 := HX.out.size
  have hz1' := HB.out.size
  have b0 : Below w.heap.size w w2 := HX.out.trans ((HB.out.trans (HB2.out.mono hz1')).mono hz0)
  have ho2 : OwnB 5 w.heap.size w2 (.slice a1 0 cap1) [] := (HO.out.below HB2.out (Nat.le_refl _)).mono (by omega)
  have hown : OwnFrom w2.heap.size (fun (_ : List (Blk 0)) W => OwnB 5 w.heap.size W (.slice a1 0 cap1) [] ∧ Below w.heap.size w W) := by
    intro s W W' row hs hg' hr
    obtain ⟨l, hk, hl⟩ := kept_of_grown hg' (fun r e => (hr r e).1)
    exact ⟨hs.1.keptO hk (fun k e hm => by have := HG.out k e; have := hl k hm; omega), hs.2.trans (hk.toBelow (fun k hm => by have := hl k hm; omega) hs.2.size)⟩
  refine wpIn_rangeFunc_ownG rfl (by omega) (gf := 97) (lb := #[.pointer (some ⟨w1.heap.size, 0, none⟩), .pointer (some ⟨w1.heap.size + 1, 0, none⟩)]) rfl trivial (enters_of Tryd.func97 (by kernel_rfl) rfl)
    (chunk_stops Fence.wide _ trivial rfl (by omega) w1.heap.size (w1.heap.size + 1) g 0 0 _ HF.out w2 (by omega) (by omega) HC.out.1 HC.out.2) keepsTwo_t (keepsTwo_b (by omega) (by omega)) (Below.refl _ _) (fun _ => rfl)
    (fun (pre : List (Blk 0)) W => OwnB 5 w.heap.size W (.slice a1 0 cap1) [] ∧ Below w.heap.size w W)
    (fun _ _ _ => False)
    hown
    (fun _ _ _ _ _ hs _ _ => hs)
    ⟨ho2, b0⟩
    (fun x => { tmps := #[], defers := [] }) ?assign ?body ?done ?stop
  case assign =>
    rintro l ⟨x, hx⟩ W K hK
    omega
  case body =>
    rintro l pre ⟨x, hx⟩ W hI _
    omega
  case done =>
    rintro D ys W hD hys hI hK
    have HI := Lib.hid hI
    have HD := Lib.hid hD
    clear hI hD hys
    gi_wp2
    refine ⟨by simp, .inl ⟨_, _, rfl, run_takeDeferred hK, ?_⟩⟩
    have hI2 := hown.putObj (s := []) (.deferred none) HI.out HD.out hK rfl
    exact ⟨_, by simp [results, Tryd.results94, go_sem], _, rfl, hI2.1, hI2.2⟩
  case stop =>
    rintro D c pre W _ _ h _
    exact h.elim

/-- chacha.Stream of any bytes. -/
def StreamR (w : World) (key nonce b : List (BitVec 8)) (c : BitVec 32) (e : Ending) (w' : World) : Prop :=
  (Cha.fits c b.length = false ∧ e = .returned (.tuple #[.slice none 0 0, .int .i64 13]) ∧ Below w.heap.size w w') ∨
  (Cha.fits c b.length = true ∧ ∃ v', e = .returned (.tuple #[v', .int .i64 0]) ∧ OwnB 5 w.heap.size w' v' (Cha.stream key c nonce b) ∧ Below w.heap.size w w')
theorem stream_good (key nonce b : List (BitVec 8)) (c : BitVec 32) (v : Value) (w : World) (hs : SlB w v b) (hk : key.length = 32) (hn : nonce.length = 12) (hl : b.length ≤ 100000000) (hf : Cha.fits c b.length = true) :
    Calls Tryd.prog 94 #[.agg (bytes key), .int .u32 (wv c), .agg (bytes nonce), v] w fun e w' => ∃ v', e = .returned (.tuple #[v', .int .i64 0]) ∧ OwnB 5 w.heap.size w' v' (Cha.stream key c nonce b) ∧ Below w.heap.size w w' := by
  by_cases h0 : b.length = 0
  · obtain rfl := List.eq_nil_of_length_eq_zero h0
    exact stream_nil key nonce c v w hs
  · exact stream_ok key nonce b c v w hs hk hn hl (by omega) hf
end Go.Proofs.YtnoilogepkelaaaDoor
