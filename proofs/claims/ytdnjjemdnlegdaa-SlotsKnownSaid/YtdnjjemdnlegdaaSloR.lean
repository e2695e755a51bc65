/-
  The law SlotsKnown: the examples of the chapter.
-/
import Derived.Test.YtdnjjemdnlegdaaSloQ
namespace Go.Proofs.Ytdnjjemdnlegdaa
set_option linter.unusedVariables false
set_option linter.unusedSimpArgs false
open Go Go.RowKit

theorem ab_konst (w : World) : SlB (konst w [97, 98]) (.slice (some ⟨w.heap.size, 0, none⟩) 2 2) Slo.ab := konst_sl w [97, 98] (by decide)
theorem ab_run (w : World) : (convert 22 22 (.slice (some ⟨w.heap.size, 0, none⟩) 2 2)).run Try.prog (w.alloc (.cells #[.int .u8 97, .int .u8 98] 5)) = .ok (.slice (some ⟨w.heap.size, 0, none⟩) 2 2) (konst w [97, 98]) := by
  have h := konst_conv [97, 98] w 2
  rw [show bytes [97, 98] = #[.int .u8 97, .int .u8 98] from by kernel_rfl] at h
  exact h
def zerosC (n : Nat) : Array Value := bytes (List.replicate n 0)
theorem made_z (n : Nat) (hn : n ≤ 1000000) (w : World) : (Instr.makeSlice 22 (.int .i64 (n : Int)) (.int .i64 (n : Int))).run Try.prog w = .ok (.slice (some ⟨w.heap.size, 0, none⟩) n n) (w.alloc (.cells (zerosC n) 5)) := made_bytes n hn w
theorem sl_z (n : Nat) (hn : n ≤ 1000000) (w : World) : SlB (w.alloc (.cells (zerosC n) 5)) (.slice (some ⟨w.heap.size, 0, none⟩) n n) (List.replicate n 0) :=
  sl_row (List.replicate n 0) (heap_alloc_new w _) (by simp) (by simp; omega)
/-- A disk and a log, laid since the call began. -/
def DB (w wr : World) (p g q : Nat) (d : Dk.D) (l : Slo.L) : Prop := DL (fun k => k < w.heap.size) wr p g q d l ∧ Below w.heap.size w wr
section
variable {w wr w' : World} {p g q : Nat} {d : Dk.D} {l : Slo.L}
theorem DB.below (h : DB w wr p g q d l) (hb : Below wr.heap.size wr w') : DB w w' p g q d l := ⟨h.1.below hb, h.2.trans (hb.mono h.2.size)⟩
theorem DB.append (h : DB w wr p g q d l) (v : Value) (t : List (BitVec 8)) (hs : SlB wr v t) (hap : Apart v t [p, g, q]) (d' : Dk.D) (l' : Slo.L) (c : Int) (he : Slo.append d l t = (d', l', c)) :
    Calls Try.prog 30 #[.pointer (some ⟨q, 0, none⟩), v] wr fun e w' => e = .returned (.int .i64 c) ∧ DB w w' p g q d' l' := by
  refine (h.1.append (fun k hk => Nat.lt_of_lt_of_le hk h.2.size) v t hs hap).mono ?_
  rw [he]
  rintro e w' ⟨rfl, hd, hf⟩
  exact ⟨rfl, hd, h.2.trans (hf.toBelow (fun j hj => hj) h.2.size)⟩
theorem DB.new (h : DB w wr p g q d l) (n : Nat) (o : Obj) (c : Nat) (xs : List (BitVec 8)) : Apart (.slice (some ⟨wr.heap.size, 0, none⟩) n c) xs [p, g, q] := by
  intro _ k hk
  simp only [Value.ownBlock, Option.some.injEq] at hk
  subst hk
  have := h.1.lt
  simp
  omega
theorem DB.open_ (h : DB w wr p g q d l) (fr n : Int) (h0 : -9223372036854775808 ≤ n) (h1 : n ≤ 9223372036854775807) {l' : Slo.L} (ho : Slo.open_ d fr n = (some l', 0)) :
    Calls Try.prog 31 #[.pointer (some ⟨p, 0, none⟩), .int .i64 fr, .int .i64 n] wr fun e w' => ∃ q', e = .returned (.tuple #[.pointer (some ⟨q', 0, none⟩), .int .i64 0]) ∧ DB w w' p g q' d l' := by
  refine (open_dl h.1.disk (fun k hk => Nat.lt_of_lt_of_le hk h.2.size) ⟨h.1.ge.1, h.1.ge.2.1⟩ fr n h0 h1).mono ?_
  rintro e w' ⟨hb, ⟨c, h1, _⟩ | ⟨l2, q', h1, rfl, hd⟩⟩
  · rw [ho] at h1; cases h1
  · rw [ho] at h1
    obtain rfl : l' = l2 := by have := congrArg Prod.fst h1; simpa using this
    exact ⟨q', rfl, hd, h.2.trans (hb.mono h.2.size)⟩
theorem DB.open_no (h : DB w wr p g q d l) (fr n : Int) (h0 : -9223372036854775808 ≤ n) (h1 : n ≤ 9223372036854775807) {c : Int} (ho : Slo.open_ d fr n = (none, c)) :
    Calls Try.prog 31 #[.pointer (some ⟨p, 0, none⟩), .int .i64 fr, .int .i64 n] wr fun e w' => e = .returned (.tuple #[.pointer none, .int .i64 c]) ∧ DB w w' p g q d l ∧ Below wr.heap.size wr w' := by
  refine (open_dl h.1.disk (fun k hk => Nat.lt_of_lt_of_le hk h.2.size) ⟨h.1.ge.1, h.1.ge.2.1⟩ fr n h0 h1).mono ?_
  rintro e w' ⟨hb, ⟨c', h1, rfl⟩ | ⟨l2, q', h1, rfl, hd⟩⟩
  · rw [ho] at h1
    obtain rfl : c = c' := by have := congrArg Prod.snd h1; simpa using this
    exact ⟨rfl, h.below hb, hb⟩
  · rw [ho] at h1; cases h1
theorem DB.put (h : DB w wr p g q d l) (at_ : Int) (v : Value) (xs : List (BitVec 8)) (hs : SlB wr v xs) (hl : xs.length ≤ 1000000000) (ha0 : -9223372036854775808 ≤ at_) (ha1 : at_ ≤ 9223372036854775807) :
    Calls Try.prog 16 #[.pointer (some ⟨p, 0, none⟩), .int .i64 at_, v] wr fun e w' => (∃ u, e = .returned u) ∧ DB w w' p g q (Dk.putAt d at_ xs).1 l := by
  refine (dk_put h.1.disk at_ v xs hs hl ha0 ha1).mono ?_
  rintro e w' ⟨rfl, hD, hK⟩
  exact ⟨⟨_, rfl⟩, h.1.keptD hK hD, h.2.trans ((h.1.frD hK).toBelow (fun j hj => hj) h.2.size)⟩
theorem DB.cut (h : DB w wr p g q d l) (wh : Int) (mask : List (BitVec 8)) (hm : mask.length = 16) (hw : wh ≤ 9223372036854775807) :
    Calls Try.prog 18 #[.pointer (some ⟨p, 0, none⟩), .int .i64 wh, .agg (bytes mask)] wr fun e w' => (∃ u, e = .returned u) ∧ DB w w' p g q (Dk.cut d wh mask).1 l ∧ Kept [p, g] wr w' := by
  refine (dk_cut h.1.disk wh mask hm hw).mono ?_
  rintro e w' ⟨rfl, hD, hK⟩
  exact ⟨⟨_, rfl⟩, ⟨h.1.keptD hK hD, h.2.trans ((h.1.frD hK).toBelow (fun j hj => hj) h.2.size)⟩, hK⟩
theorem DB.restart (h : DB w wr p g q d l) : Calls Try.prog 25 #[.pointer (some ⟨p, 0, none⟩)] wr fun e w' => e = .returned (.int .i64 0) ∧ DB w w' p g q (Dk.restart d) l := by
  refine (dk_restart h.1.disk).mono ?_
  rintro e w' ⟨rfl, hD, hK⟩
  exact ⟨rfl, h.1.keptD hK hD, h.2.trans ((h.1.frD hK).toBelow (fun j hj => hj) h.2.size)⟩
theorem given_db (n : Nat) (h0 : 1 ≤ n) (h1 : n ≤ 16384) (hb : Below w.heap.size w wr) : Calls Try.prog 29 #[.int .i64 (n : Int)] wr fun e w' =>
    ∃ p g q, e = .returned (.tuple #[.pointer (some ⟨p, 0, none⟩), .pointer (some ⟨q, 0, none⟩)]) ∧ DB w w' p g q (Dk.fresh n) ⟨0, n, [], 0, false⟩ := by
  refine (given_any n h0 h1 wr).mono ?_
  rintro e w' ⟨p, g, q, rfl, hd, hb2⟩
  exact ⟨p, g, q, rfl, hd.others fun k _ hk => Nat.lt_of_lt_of_le hk hb.size, hb.trans (hb2.mono hb.size)⟩
end
theorem eta3 {r : Dk.D × Slo.L × Int} {c : Int} (h : r.2.2 = c) : r = (r.1, r.2.1, c) := by subst h; rfl
theorem a1_eq : Slo.append (Dk.fresh 3) Slo.k3 Slo.ab = (Slo.a1.1, Slo.a1.2.1, 0) := by have h := eta3 Slo.kn1.1; unfold Slo.a1 at h ⊢; exact h
theorem a3_eq : Slo.append Slo.a1.1 Slo.a1.2.1 (List.replicate 251 0) = (Slo.a3.1, Slo.a3.2.1, 0) := by have h := eta3 Slo.kn3.1; unfold Slo.a3 at h ⊢; exact h
theorem b1_eq : Slo.append Slo.e1 Slo.k4 Slo.long = (Slo.b1.1, Slo.b1.2.1, 12) := by have h := eta3 Slo.kn5.1; unfold Slo.b1 at h ⊢; exact h
theorem b2_eq : Slo.append Slo.e2 Slo.k4 Slo.ab = (Slo.b2.1, Slo.b2.2.1, 0) := by have h := eta3 Slo.kn7.1; unfold Slo.b2 at h ⊢; exact h
theorem mask_len : Slo.mask254.length = 16 := rfl
theorem long_len : Slo.long.length = 200 := by unfold Slo.long; rw [List.length_set, List.length_replicate]
theorem d4_eq : (Dk.putAt Slo.a3.1 0 [2]).1 = Slo.d4 := rfl
theorem e1_eq : (Dk.cut (Dk.fresh 4) 3 Slo.mask254).1 = Slo.e1 := rfl
theorem e2_eq : Dk.restart Slo.b1.1 = Slo.e2 := rfl
theorem mask_eq : bytes Slo.mask254 = #[.int .u8 254, .int .u8 0, .int .u8 0, .int .u8 0, .int .u8 0, .int .u8 0, .int .u8 0, .int .u8 0, .int .u8 0, .int .u8 0, .int .u8 0, .int .u8 0, .int .u8 0, .int .u8 0, .int .u8 0, .int .u8 0] := by kernel_rfl
theorem two_sl (w : World) : SlB (w.alloc (.cells #[.int .u8 2] 5)) (.slice (some ⟨w.heap.size, 0, none⟩) 1 1) [2] := sl_row [2] (heap_alloc_new w _) rfl (by simp)
theorem z_cell (w : World) (j : Nat) (hj : j < 200) : (w.alloc (.cells (zerosC 200) 5)).cell? ⟨w.heap.size, j, none⟩ = some (.int .u8 0) := by
  rw [cell_of_row _ _ j _ _ _ (heap_alloc_new w _), zerosC, bytes_get? _ _ (by rw [List.length_replicate]; exact hj)]
  congr 2
  simp only [List.getD]
  rw [List.getElem?_replicate]
  simp [hj, bv]
theorem long_row {w : World} {b : Nat} (h : w.heap[b]? = some (.cells (zerosC 200) 5 (0, 0))) : (w.setCell ⟨b, 123, none⟩ (.int .u8 1)).heap[b]? = some (.cells (bytes Slo.long) 5 (0, 0)) := by
  have h1 := heap_setCell_same w b 123 _ _ (.int .u8 (bv 1)) h
  rw [zerosC, bytes_set] at h1
  exact h1
theorem strS_nil (w : World) : StrS w (.slice none 0 0) [] := ⟨none, 0, rfl, Nat.le_refl _, fun j hj => absurd hj (Nat.not_lt_zero _)⟩
theorem strS_ab (w : World) (t : TypeId) : StrS (w.alloc (.cells #[.string ⟨#[97, 98]⟩] t)) (.slice (some ⟨w.heap.size, 0, none⟩) 1 1) [Slo.ab] :=
  ⟨some ⟨w.heap.size, 0, none⟩, 1, rfl, Nat.le_refl _, fun j hj => ⟨w.heap.size, 0, rfl, by simp, by
    obtain rfl : j = 0 := by simpa using hj
    rw [Nat.add_zero]
    exact cell_new1 _ _ _⟩⟩

attribute [local irreducible] zerosC Slo.a1 Slo.a3 Slo.d4 Slo.e1 Slo.b1 Slo.e2 Slo.b2 Slo.long Slo.mask254 Slo.ab Slo.append Dk.fresh
set_option maxRecDepth 100000 in
set_option maxHeartbeats 8000000 in
theorem law_slotsKnown {w : World} : Calls Try.prog 8 #[] w fun e w' => e = .returned (.bool true) ∧ Below w.heap.size w w' := by
  have HAW := Lib.hid (fun w => awake9_any w)
  go_enter Try.func8, Try.ntmps8
  go_upto_region 3 with (go_at_call 28; refine (HAW.out _).mono ?_; rintro e w1 ⟨rfl, hb⟩; have HB1 := Lib.hid hb; clear hb)
  go_upto_region 4 with (go_at_call 29; refine (given_db (w := w) 3 (by omega) (by omega) HB1.out).mono ?_; rintro e w2 ⟨p, g, q, rfl, hd⟩; have HD2 := Lib.hid hd; clear hd)
  have hkc := ab_run w2
  go_upto_region 5 with (go_at_call 30; refine ((HD2.out.below (konst_below _ _)).append _ Slo.ab (ab_konst w2) (HD2.out.new 2 (.deferred none) 2 _) _ _ _ a1_eq).mono ?_; rintro e w3 ⟨rfl, hd⟩; have HD3 := Lib.hid hd; clear hd)
  clear hkc HD2
  have hmk := made_z 252 (by omega) w3
  rw [show ((252 : Nat) : Int) = 252 from rfl] at hmk
  go_upto_region 7 with (first
    | (go_at_call 30; refine ((HD3.out.below ((Below.refl _ w3).alloc (Nat.le_refl _) _)).append _ (List.replicate 252 0) (sl_z 252 (by omega) w3) (HD3.out.new 252 (.deferred none) 252 _) _ _ _ Slo.kn_full1).mono ?_; rintro e w4 ⟨rfl, hd⟩; have HD4 := Lib.hid hd; have hmk2 := made_z 251 (by omega) w4; rw [show ((251 : Nat) : Int) = 251 from rfl] at hmk2; clear hd hmk HD3)
    | (go_at_call 30; refine ((HD4.out.below ((Below.refl _ w4).alloc (Nat.le_refl _) _)).append _ (List.replicate 251 0) (sl_z 251 (by omega) w4) (HD4.out.new 251 (.deferred none) 251 _) _ _ _ a3_eq).mono ?_; rintro e w5 ⟨rfl, hd⟩; have HD5 := Lib.hid hd; clear hd hmk2 HD4)
    | (go_at_call 39; refine HD5.out.1.room.mono ?_; rw [Slo.kn3.2.2.2.2.2]; rintro e w6 ⟨rfl, nq, rfl⟩)
    | (go_at_call 30; refine ((HD5.out.below (Below.drewN (Below.refl _ w5) nq)).append _ [] (SlB.nil _) (fun h => absurd rfl h) _ _ _ Slo.kn_full3).mono ?_; rintro e w7 ⟨rfl, hd⟩; have HD7 := Lib.hid hd; clear hd))
  have HC7 := Lib.hid (show w7.heap.size = w7.heap.size from rfl)
  go_upto_region 8 with (go_at_call 16; refine ((HD7.out.below ((Below.refl _ w7).alloc (Nat.le_refl _) _)).put 0 _ [2] (two_sl w7) (by decide) (by decide) (by decide)).mono ?_; rw [d4_eq]; rintro e w8 ⟨⟨u8, rfl⟩, hd⟩; have HD8 := Lib.hid hd; clear hd HD7)
  go_upto_region 9 with (go_at_call 31; refine (HD8.out.open_no 0 3 (by decide) (by decide) Slo.kn_open4).mono ?_; rintro e w9 ⟨rfl, hd, _⟩; have HB9 := Lib.hid hd.2; clear hd HD8)
  go_upto_region 10 with (go_at_call 29; refine (given_db (w := w) 4 (by omega) (by omega) HB9.out).mono ?_; rintro e w10 ⟨x, gx, m, rfl, hd⟩; have HD10 := Lib.hid (show DB w w10 x gx m (Dk.fresh 4) Slo.k4 from hd); clear hd)
  have hmk := made_z 200 (by omega) w10
  rw [show ((200 : Nat) : Int) = 200 from rfl] at hmk
  go_upto_region 11 with fail
  clear hmk
  obtain ⟨wl, hwl, hbl, hzl, hrl⟩ := alloc1 w10 (.cells (zerosC 200) 5)
  have clz : wl.cell? ⟨w10.heap.size, 123, none⟩ = some (.int .u8 0) := by rw [← hwl]; exact z_cell w10 123 (by decide)
  have flz : wl.frozen? ⟨w10.heap.size, 123, none⟩ = false := frozen_of_row _ _ 123 _ _ hrl
  rw [hwl]
  clear hwl
  have HDL := Lib.hid (HD10.out.below hbl)
  have HDF := Lib.hid ((HD10.out.1.others (F' := fun k => k < w.heap.size ∨ k = w10.heap.size) fun k hk h => by
    rcases h with h | h
    · exact h
    · omega).below hbl)
  have HBS := Lib.hid HD10.out.2.size
  have HRL := Lib.hid hrl
  have HZL := Lib.hid (And.intro hzl HD10.out.1.lt)
  clear hbl hzl hrl HD10
  go_upto_region 12 with fail
  clear clz flz
  have hlr := long_row HRL.out
  have hzl := HZL.out
  obtain ⟨wm, hwm⟩ : ∃ wm, wl.setCell ⟨w10.heap.size, 123, none⟩ (.int .u8 1) = wm := ⟨_, rfl⟩
  rw [hwm] at hlr ⊢
  have hkm : Kept [w10.heap.size] wl wm := by rw [← hwm]; exact (Kept.refl [w10.heap.size] wl).setCell (by simp) _
  have HRM := Lib.hid hlr
  have HDM := Lib.hid (show DB w wm x gx m (Dk.fresh 4) Slo.k4 from ⟨(HDF.out.kept hkm (fun k hk => .inr (by simpa using hk))).others (fun k _ h => .inl h), HDL.out.2.trans (hkm.toBelow (fun k hk => by have := HBS.out; simp at hk; omega) HDL.out.2.size)⟩)
  clear hlr hwm hkm HDL HDF HRL
  have HCT := Lib.hid (HDM.out.cut 3 Slo.mask254 mask_len (by decide))
  rw [mask_eq, e1_eq] at HCT
  go_upto_region 13 with (go_at_call 18; refine HCT.out.mono ?_; rintro e wn ⟨⟨un, rfl⟩, hd, hk⟩; have HDN := Lib.hid hd; have HRN := Lib.hid ((hk.block w10.heap.size (Array.getElem?_eq_some_iff.1 HRM.out).1 (by have := HZL.out; simp; omega)).trans HRM.out); clear hd hk)
  clear HCT HDM HRM
  have hlong := sl_row Slo.long HRN.out (n := 200) long_len.symm (by rw [long_len]; decide)
  have HLO := Lib.hid hlong
  clear hlong
  go_upto_region 15 with (first
    | (go_at_call 30; refine (HDN.out.append _ Slo.long HLO.out (by intro _ k hk; simp only [Value.ownBlock, Option.some.injEq] at hk; have := HZL.out; simp; omega) _ _ _ b1_eq).mono ?_; rintro e wp ⟨rfl, hd⟩; have HDP := Lib.hid hd; clear hd HDN)
    | (go_at_call 30; refine (HDP.out.append _ [] (SlB.nil _) (fun h => absurd rfl h) _ _ _ (Slo.append_dead Slo.kn5.2)).mono ?_; rintro e wq ⟨rfl, hd⟩; have HDQ := Lib.hid hd; clear hd HDP)
    | (go_at_call 25; refine HDQ.out.restart.mono ?_; rw [e2_eq]; rintro e wr ⟨rfl, hd⟩; have HDR := Lib.hid hd; clear hd HDQ)
    | (go_at_call 30; refine (HDR.out.append _ [] (SlB.nil _) (fun h => absurd rfl h) _ _ _ (Slo.append_dead Slo.kn5.2)).mono ?_; rintro e ws ⟨rfl, hd⟩; have HDS := Lib.hid hd; clear hd HDR))
  go_upto_region 16 with (go_at_call 31; refine (HDS.out.open_ 0 4 (by decide) (by decide) Slo.kn_open6).mono ?_; rintro e wt ⟨q3, rfl, hd⟩; have HDT := Lib.hid hd; clear hd HDS)
  go_upto_region 18 with (first
    | (go_at_call 40; refine (is9_any HDT.out.1 _ [] (strS_nil _) (by decide)).mono ?_; rw [decide_eq_true (show Slo.k4.texts = [] from rfl)]; rintro e wu ⟨rfl, hb⟩; have HDU := Lib.hid (HDT.out.below hb); have hkc := ab_run wu; clear hb HDT)
    | (go_at_call 30; refine ((HDU.out.below (konst_below _ _)).append _ Slo.ab (ab_konst wu) (HDU.out.new 2 (.deferred none) 2 _) _ _ _ b2_eq).mono ?_; rintro e wv ⟨rfl, hd⟩; have HDV := Lib.hid hd; clear hd HDU hkc))
  go_upto_region 19 with (go_at_call 31; refine (HDV.out.open_ 0 4 (by decide) (by decide) Slo.kn_open7).mono ?_; rintro e wy ⟨q4, rfl, hd⟩; have HDY := Lib.hid hd; clear hd HDV)
  go_upto_region 21 with fail
  obtain ⟨W, hW, hBW, hzW, hrW⟩ := alloc1 wy (.cells #[.pointer none, .int .i64 0, .int .i64 0, .slice none 0 0, .int .i64 0, .bool false] 75)
  rw [hW]
  clear hW
  have HDW := Lib.hid (HDY.out.below hBW)
  have HZW := Lib.hid (show W.cell? ⟨wy.heap.size, 0, none⟩ = some (.pointer none) ∧ wy.heap.size < W.heap.size from ⟨cell_of_row _ _ 0 _ _ _ hrW, by omega⟩)
  clear hBW hzW hrW HDY
  go_upto_region 22 with (go_at_call 31; refine (open_nil9 _ 0 1).mono ?_; rintro e X1 ⟨rfl, hb⟩; have HDX1 := Lib.hid (HDW.out.below hb); have HZ1 := Lib.hid (And.intro ((hb.cell (p := ⟨wy.heap.size, 0, none⟩) HZW.out.2).trans HZW.out.1) (Nat.lt_of_lt_of_le HZW.out.2 hb.size)); clear hb HDW)
  go_upto_region 23 with (go_at_call 31; refine (HDX1.out.open_no 3 2 (by decide) (by decide) Slo.kn_arg1).mono ?_; rintro e X2 ⟨rfl, hd, hb⟩; have HDX2 := Lib.hid hd; have HZ2 := Lib.hid (And.intro ((hb.cell (p := ⟨wy.heap.size, 0, none⟩) HZ1.out.2).trans HZ1.out.1) (Nat.lt_of_lt_of_le HZ1.out.2 hb.size)); clear hd hb HDX1 HZ1)
  go_upto_region 24 with (go_at_call 31; refine (HDX2.out.open_no 0 0 (by decide) (by decide) Slo.kn_arg2).mono ?_; rintro e X3 ⟨rfl, hd, hb⟩; have HDX3 := Lib.hid hd; have HZ3 := Lib.hid (And.intro ((hb.cell (p := ⟨wy.heap.size, 0, none⟩) HZ2.out.2).trans HZ2.out.1) (Nat.lt_of_lt_of_le HZ2.out.2 hb.size)); clear hd hb HDX2 HZ2)
  have HD3x := HDX3.out.2
  obtain ⟨Y, hY, hBY, hzY, hrY⟩ := alloc1 X3 (.cells #[.string ⟨#[97, 98]⟩] 9)
  have HSY := Lib.hid (show StrS Y (.slice (some ⟨X3.heap.size, 0, none⟩) 1 1) [Slo.ab] by rw [← hY]; exact strS_ab X3 _)
  have HDY2 := Lib.hid (HDX3.out.below hBY)
  have HZY := Lib.hid (And.intro ((hBY.cell (p := ⟨wy.heap.size, 0, none⟩) HZ3.out.2).trans HZ3.out.1) (Nat.lt_of_lt_of_le HZ3.out.2 hBY.size))
  have HY := Lib.hid hY
  clear hY hBY hzY hrY HD3x
  go_wp2_with (first
    | (go_at_call 40; rw [HY.out]; refine (is9_any HDY2.out.1 _ [Slo.ab] HSY.out (by decide)).mono ?_; rw [decide_eq_true rfl]; rintro e Y1 ⟨rfl, hb⟩; have HBY := Lib.hid (HDY2.out.2.trans (hb.mono HDY2.out.2.size)); have HZ4 := Lib.hid ((hb.cell (p := ⟨wy.heap.size, 0, none⟩) HZY.out.2).trans HZY.out.1); clear hb)
    | (go_at_call 30; (with_reducible refine Calls.mono (slo_append_no (slo_is_nil _)) ?_); rintro e w' ⟨rfl, rfl⟩)
    | (go_at_call 30; (with_reducible refine Calls.mono (slo_append_no (slo_is_zero _ _ HZ4.out)) ?_); rintro e w' ⟨rfl, rfl⟩)
    | (go_at_call 32; (with_reducible refine Calls.mono (slo_all_no (slo_is_nil _)) ?_); rintro e w' ⟨rfl, rfl⟩)
    | (go_at_call 39; (with_reducible refine Calls.mono (slo_room_no (slo_is_zero _ _ HZ4.out)) ?_); rintro e w' ⟨rfl, rfl⟩)
    | (go_at_call 34; (with_reducible refine Calls.mono (slo_used_no (slo_is_nil _)) ?_); rintro e w' ⟨rfl, rfl⟩))
  go_ret
  exact ⟨rfl, HBY.out⟩
end Go.Proofs.Ytdnjjemdnlegdaa
