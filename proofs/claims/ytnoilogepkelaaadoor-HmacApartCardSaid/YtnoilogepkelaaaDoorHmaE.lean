/-
  hmac.piece and hmac.Derive: keys out of keys.
-/
import Derived.Test.YtnoilogepkelaaaDoorHmaB
import Derived.Test.YtnoilogepkelaaaDoorApp
import Derived.Lib.AppendStr
namespace Go.Proofs.YtnoilogepkelaaaDoor
set_option linter.unusedVariables false
set_option linter.unusedSimpArgs false
open Go Go.RowKit

theorem strCells_strB (xs : List (BitVec 8)) : Lib.strCells (strB xs) = bcells xs := by
  have hd : (strB xs).data.toList = (xs.map bv).map (fun n => UInt8.ofNat n.toNat) := strOfNums_data _
  simp only [Lib.strCells, hd, List.map_map, bcells]
  refine List.map_congr_left fun x _ => ?_
  have := x.isLt
  simp only [Function.comp, byteV, bv, Int.toNat_natCast]
  congr 1
  simp only [UInt8.toNat_ofNat']
  omega
theorem bv_ofNat (k : Nat) : bv (BitVec.ofNat 8 k) = (k : Int) % 256 := by
  unfold bv
  rw [BitVec.toNat_ofNat]
  omega
/-- Four bytes in a new block. -/
theorem four_new {E : TypeId} (w : World) (a b c d : Int) (x y z t : BitVec 8) (h1 : a = bv x) (h2 : b = bv y) (h3 : c = bv z) (h4 : d = bv t) :
    SlB (w.alloc (.cells #[.int .u8 a, .int .u8 b, .int .u8 c, .int .u8 d] E)) (.slice (some ⟨w.heap.size, 0, none⟩) 4 4) [x, y, z, t] := by
  subst h1 h2 h3 h4
  exact sl_arr (t := E) (fr := (0, 0)) [x, y, z, t] (heapA_new w _ _ rfl) rfl (by simp)
section
variable {P : Program}
/-- append(b, s...), s a text. -/
theorem wpList_append_s {ops : Array Oper} {rest : List Oper} {o : Oper} {a : Act} {w : World} {Q : Exit → Act → World → Prop} (hgd : o.guard = none) (s x : Operand) (T U E : TypeId)
    (ho : o.op = .call { callee := .builtin .append, args := #[s, x], argTypes := #[T, U] }) (ht : P.underlying T = some (.slice E)) (hu : P.underlying U = some .string)
    (hi : (P.info? E).map (fun i => (i.zero, i.size, i.bytes)) = some (some (.int .u8 0), 1, 1)) (base : Nat)
    (v : Value) (xs : List (BitVec 8)) (hown : OwnB E base w v xs) (hs : a.eval s = v) (ys : List (BitVec 8)) (hx : a.eval x = .string (strB ys))
    (hlen : xs.length + ys.length ≤ 1000000000) (hbase : base ≤ w.heap.size)
    (h : ∀ v' w', OwnB E base w' v' (xs ++ ys) → w.grownBy w' v.ownBlock → wpList P ops Q rest (a.put o.dst v') w') : wpList P ops Q (o :: rest) a w := by
  obtain ⟨i, hi0, hz, hsz, hby⟩ := info_parts hi
  refine Lib.wpList_append_own_string _ hgd s x T U ho base E i ht hu hi0 hz hsz hby v xs.length (bcells xs) hs hown (strB ys) hx (by rw [strB_size]; unfold maxLen; omega) (by rw [strB_size]; omega) hbase ?_
  intro v' w' how hg _
  refine h v' w' ?_ hg
  rw [strB_size, strCells_strB] at how
  simpa [OwnB, bcells_append] using how
end
/-- What piece returns. -/
def RetP (base : Nat) (w : World) (xs : List (BitVec 8)) (e : Ending) (w' : World) : Prop := ∃ v', e = .returned v' ∧ OwnB 5 base w' v' xs ∧ Below base w w'

set_option maxRecDepth 100000 in
set_option maxHeartbeats 1000000 in
theorem piece_any (base : Nat) (xs text : List (BitVec 8)) (v : Value) (w : World) (ho : OwnB 5 base w v xs) (hl : text.length ≤ 50000000) (hl2 : xs.length ≤ 500000000) (hb : base ≤ w.heap.size) :
    Calls Tryd.prog 74 #[v, .string (strB text)] w (RetP base w (Hma.piece xs text)) := by
  have HO := Lib.hid ho
  have hsz := strB_size text
  have HT := Lib.hid (show Hma.piece xs text = (xs ++ Hma.len4 text.length) ++ text from rfl)
  have HL4 := Lib.hid (show Hma.len4 text.length = [BitVec.ofNat 8 (text.length / 16777216), BitVec.ofNat 8 (text.length / 65536), BitVec.ofNat 8 (text.length / 256), BitVec.ofNat 8 text.length] from rfl)
  obtain ⟨S, hS⟩ : ∃ S, strB text = S := ⟨_, rfl⟩
  rw [hS] at hsz ⊢
  have HS := Lib.hid hS
  obtain ⟨n, hn⟩ : ∃ n, text.length = n := ⟨_, rfl⟩
  have HN := Lib.hid hn
  rw [hn] at hsz hl HT HL4
  have hss : (S.size : Int) = n := by omega
  have hw : IntKind.u32.wrap (n : Int) = n := by rw [wrap_u32_mod]; omega
  have HXL := Lib.hid hl2
  have h16 := bv_ofNat (n / 16777216)
  have h24 := bv_ofNat (n / 65536)
  have h32 := bv_ofNat (n / 256)
  have h40 := bv_ofNat n
  have H16 := Lib.hid (show (n : Int) / 16777216 % 256 = bv (BitVec.ofNat 8 (n / 16777216)) ∧ (n : Int) / 65536 % 256 = bv (BitVec.ofNat 8 (n / 65536)) ∧ (n : Int) / 256 % 256 = bv (BitVec.ofNat 8 (n / 256)) ∧ (n : Int) % 256 = bv (BitVec.ofNat 8 n) ∧ (n : Int) / 16777216 = bv (BitVec.ofNat 8 (n / 16777216)) by omega)
  clear ho hS hn hl2 h16 h24 h32 h40
  generalize Hma.piece xs text = R at *
  go_enter Tryd.func74, Tryd.ntmps74
  go_wp2_with (first
    | (at_builtin; refine wpList_append_b rfl (.tmp 9) (.tmp 21) 22 5 rfl Tryd.underlying22 info_u8 base _ _ (HO.out.alloc _) rfl _ (Hma.len4 n) (by rw [HL4.out]; refine four_new _ _ _ _ _ _ _ _ _ ?_ ?_ ?_ ?_ <;> first | exact H16.out.1 | exact H16.out.2.1 | exact H16.out.2.2.1 | exact H16.out.2.2.2.1 | exact H16.out.2.2.2.2) rfl (by rw [HL4.out]; have := HXL.out; simp; omega) (by simp; omega) ?_; intro v2 w2 ho hg hn'; have HO2 := Lib.hid ho; have HG2 := Lib.hid hg; clear ho hg hn')
    | (at_builtin; refine wpList_append_s rfl (.tmp 22) (.tmp 23) 22 9 5 rfl Tryd.underlying22 Tryd.underlying9 info_u8 base _ _ HO2.out rfl text (by rw [HS.out]; rfl) (by rw [HL4.out]; have := HXL.out; have := HN.out; simp; omega) (by have := HG2.out.size; simp at this; omega) ?_; intro v3 w3 ho hg; have HO3 := Lib.hid ho; have HG3 := Lib.hid hg; clear ho hg))
  rw [← HT.out] at HO3
  go_ret
  exact ⟨_, rfl, HO3.out, (((Below.refl base w).alloc hb _).grown HG2.out (by simp; omega) (fun k e => (World.ownsRow.lt HO.out k e).1)).grown HG3.out (by have h1 := HG2.out.size; simp at h1; omega) (fun k e => (World.ownsRow.lt HO2.out k e).1)⟩

def Hma.canonN (name : List (BitVec 8)) (parts : List (List (BitVec 8))) (k : Nat) : List (BitVec 8) := (parts.take k).foldl Hma.piece (Hma.piece [] name)
theorem Hma.canonN_zero (name : List (BitVec 8)) (parts : List (List (BitVec 8))) : Hma.canonN name parts 0 = Hma.piece [] name := rfl
theorem Hma.canonN_succ (name : List (BitVec 8)) (parts : List (List (BitVec 8))) (k : Nat) (h : k < parts.length) : Hma.canonN name parts (k + 1) = Hma.piece (Hma.canonN name parts k) (parts.getD k []) := by
  unfold Hma.canonN
  rw [List.take_succ_eq_append_getElem h, List.foldl_append]
  simp [List.getD, h]
theorem Hma.canonN_all (name : List (BitVec 8)) (parts : List (List (BitVec 8))) (k : Nat) (h : parts.length ≤ k) : Hma.canonN name parts k = Hma.canon name parts := by
  unfold Hma.canonN Hma.canon
  rw [List.take_of_length_le h]
theorem Hma.piece_length (b text : List (BitVec 8)) : (Hma.piece b text).length = b.length + 4 + text.length := by simp [Hma.piece, Hma.len4]; omega
theorem Hma.canonN_le (name : List (BitVec 8)) (parts : List (List (BitVec 8))) (N : Nat) (hp : ∀ k, k < parts.length → (parts.getD k []).length ≤ N) (k : Nat) (h : k ≤ parts.length) : (Hma.canonN name parts k).length ≤ 4 + name.length + k * (4 + N) := by
  induction k with
  | zero => rw [Hma.canonN_zero, Hma.piece_length]; simp
  | succ k ih =>
    rw [Hma.canonN_succ _ _ _ (by omega), Hma.piece_length]
    have := hp k (by omega)
    have := ih (by omega)
    rw [Nat.add_mul]
    omega

set_option maxRecDepth 100000 in
set_option maxHeartbeats 4000000 in
theorem derive_any (key name : List (BitVec 8)) (parts : List (List (BitVec 8))) (hk : key.length = 32) (hn : name.length ≤ 1000000) (vs : List Value) (v : Value) (w : World) (hv : SlL w v vs) (hl : vs.length = parts.length)
    (hs : ∀ j, j < vs.length → SlB w (vs.getD j undef) (parts.getD j [])) (hp : ∀ j, j < parts.length → (parts.getD j []).length ≤ 1000000) (hm : parts.length ≤ 20) (hG : Glob w) :
    Calls Tryd.prog 45 #[.agg (bytes key), .string (strB name), v] w fun e w' => e = .returned (.agg (bytes (Hma.derive_ key name parts))) ∧ Below w.heap.size w w' := by
  obtain ⟨a, cap, rfl, hcell⟩ : ∃ a cap, v = .slice a vs.length cap ∧ ∀ j, j < vs.length → ∃ b off, a = some ⟨b, off, none⟩ ∧ b < w.heap.size ∧ w.cell? ⟨b, off + j, none⟩ = some (vs.getD j undef) := by
    rcases hv with ⟨rfl, rfl⟩ | ⟨b, off, cap, rfl, _, _, hb, h4⟩
    · exact ⟨_, _, rfl, fun j hj => absurd hj (by simp)⟩
    · exact ⟨_, _, rfl, fun j hj => ⟨b, off, rfl, hb, h4 j hj⟩⟩
  have hgz := hG.size
  have hle := fun k (h : k ≤ parts.length) => Hma.canonN_le name parts 1000000 hp k h
  have HLE := Lib.hid (fun k (h : k ≤ parts.length) => (show (Hma.canonN name parts k).length ≤ 30000000 by have h1 := hle k h; have h2 := Nat.mul_le_mul_right 1000004 (show k ≤ 20 by omega); omega))
  have HC := Lib.hid hcell
  have HS := Lib.hid hs
  have HL := Lib.hid hl
  have HP := Lib.hid hp
  have HSU := Lib.hid (fun k (h : k < parts.length) => Hma.canonN_succ name parts k h)
  have HAL := Lib.hid (Hma.canonN_all name parts parts.length (Nat.le_refl _))
  have HZ := Lib.hid (Hma.canonN_zero name parts)
  have HPC := Lib.hid (fun base xs text v W ho h1 h2 h3 => piece_any base xs text v W ho h1 h2 h3)
  have HMA := Lib.hid (fun v0 v1 W (h0 : SlB W v0 key) (h1 : SlB W v1 (Hma.canon name parts)) (hB : Below w.heap.size w W) => hmac_any key (Hma.canon name parts) v0 v1 W h0 h1 (by omega) (by have h2 := HLE.out parts.length (Nat.le_refl _); rw [HAL.out] at h2; omega) (hG.below hB hgz))
  rw [show Hma.tag key (Hma.canon name parts) = Hma.derive_ key name parts from rfl] at HMA
  have HIT := Lib.hid (show (Tryd.prog.info? 32).map (·.size) = some (bytes (Hma.derive_ key name parts)).size by rw [bytes_size, Hma.derive_length]; kernel_rfl)
  have HTZ := Lib.hid (Hma.derive_length key name parts)
  have HK := Lib.hid hk
  have HN := Lib.hid hn
  obtain ⟨T, hT⟩ : ∃ T, Hma.derive_ key name parts = T := ⟨_, rfl⟩
  rw [hT] at HMA HIT HTZ ⊢
  obtain ⟨kb, hkb⟩ : ∃ kb, bytes key = kb := ⟨_, rfl⟩
  rw [hkb]
  have HKB := Lib.hid hkb
  obtain ⟨NM, hNM⟩ : ∃ NM, strB name = NM := ⟨_, rfl⟩
  rw [hNM]
  have HNM := Lib.hid hNM
  obtain ⟨m, hm'⟩ : ∃ m, vs.length = m := ⟨_, rfl⟩
  rw [hm'] at HC HS HL ⊢
  have hmm : m = parts.length := by rw [← hm']; exact hl
  have HM := Lib.hid hmm
  clear hv hl hs hp hcell hle hk hn hT hkb hNM hm' hG
  go_enter Tryd.func45, Tryd.ntmps45
  go_upto_region 1 with fail
  obtain ⟨X, hX, hBX, hXs, hX0, hX1⟩ := alloc2 w (.cells kb 32) (.cells (bytes (List.replicate 32 0)) 32)
  rw [show (w.alloc (.cells kb 32)).alloc (.cells #[.int .u8 0, .int .u8 0, .int .u8 0, .int .u8 0, .int .u8 0, .int .u8 0, .int .u8 0, .int .u8 0, .int .u8 0, .int .u8 0, .int .u8 0, .int .u8 0, .int .u8 0, .int .u8 0, .int .u8 0, .int .u8 0, .int .u8 0, .int .u8 0, .int .u8 0, .int .u8 0, .int .u8 0, .int .u8 0, .int .u8 0, .int .u8 0, .int .u8 0, .int .u8 0, .int .u8 0, .int .u8 0, .int .u8 0, .int .u8 0, .int .u8 0, .int .u8 0] 32) = X from hX]
  have HBX := Lib.hid hBX
  have HX0 := Lib.hid hX0
  have HX1 := Lib.hid hX1
  have HXS := Lib.hid hXs
  clear hX hBX hX0 hX1 hXs
  go_upto_region 2 with (go_at_call 74; rw [← HNM.out]; refine (HPC.out X.heap.size [] name _ X (OwnB.nil _ _ _) (by have := HN.out; omega) (by simp) (Nat.le_refl _)).mono ?_; rintro e w1 ⟨v1, rfl, ho, hb⟩; have HO1 := Lib.hid ho; have HB1 := Lib.hid hb; clear ho hb; rw [HNM.out])
  rw [← HZ.out] at HO1
  go_wp2
  go_loopw [7, 14] (fun s7 s14 wr => ∃ k : Nat, k ≤ m ∧ s14 = .int .i64 k ∧ Hid (OwnB 5 X.heap.size wr s7 (Hma.canonN name parts k)) ∧ Hid (Below X.heap.size X wr)) (fun _ s14 _ => m - (intOf s14).toNat)
  case atStart => exact ⟨0, by omega, rfl, HO1, HB1⟩
  case round =>
    clear HO1 HB1
    obtain ⟨k, hk, rfl, HO, HB⟩ := hrel
    have hbw : Below w.heap.size w wr := HBX.out.trans (HB.out.mono HBX.out.size)
    have HBW := Lib.hid hbw
    have hxs := HXS.out
    have hsz := HB.out.size
    by_cases hlt : k < m
    · obtain ⟨b, off, rfl, hbl, hc0⟩ := HC.out k hlt
      have hc := (hbw.cell (p := ⟨b, off + k, none⟩) hbl).trans hc0
      have hsk := (HS.out k hlt).below hbw (Nat.le_refl _)
      obtain ⟨a', c', hu⟩ := hsk.len
      have kc := conv_any hsk
      rw [hu] at hc kc
      have HPK := Lib.hid (show (parts.getD k []).length ≤ 1000000 ∧ Hma.canonN name parts (k + 1) = Hma.piece (Hma.canonN name parts k) (parts.getD k []) ∧ (Hma.canonN name parts k).length ≤ 30000000 from ⟨HP.out k (by omega), HSU.out k (by omega), HLE.out k (by omega)⟩)
      generalize parts.getD k [] = p at kc hc HPK hu
      clear hu hsk hbw hc0
      go_wp2_with (go_at_call 74; refine (HPC.out X.heap.size _ p _ wr HO.out (by have := HPK.out.1; omega) (by have := HPK.out.2.2; omega) hsz).mono ?_; rintro e w3 ⟨v3, rfl, ho, hb⟩; rw [← HPK.out.2.1] at ho; have HO3 := Lib.hid ho; have HB3 := Lib.hid (HB.out.trans hb); clear ho hb)
      exact ⟨⟨k + 1, by omega, by go_num, HO3, HB3⟩, by simp [intOf]; omega⟩
    · obtain rfl : k = m := by omega
      rw [HM.out, HAL.out] at HO
      have hx0 := (HB.out.block w.heap.size (by omega)).trans HX0.out
      have hx1 := (HB.out.block (w.heap.size + 1) (by omega)).trans HX1.out
      rw [← HKB.out] at hx0
      have HX0' := Lib.hid hx0
      have HX1' := Lib.hid hx1
      have HZS := Lib.hid (show w.heap.size + 1 < wr.heap.size by omega)
      clear hx0 hx1
      go_wp2_with (first
        | (go_at_call 41; refine (HMA.out _ _ wr (sl_arr key HX0'.out HK.out.symm (by rw [HK.out]; omega)) HO.out.sl HBW.out).mono ?_; rintro e w4 ⟨rfl, hb⟩; have HB4 := Lib.hid (HBW.out.trans (hb.mono HBW.out.size)); have HX4 := Lib.hid ((hb.block (w.heap.size + 1) HZS.out).trans HX1'.out); clear hb)
        | (refine wpList_store_row rfl 32 (.tmp 6) (.tmp 25) rfl (w.heap.size + 1) _ rfl rfl _ _ HX4.out HIT.out (by rw [bytes_size, bytes_size, HTZ.out]; rfl) (bytes_one _) ?_))
      exact bodyPost_ret (results_cell_row Tryd.results45 _ _ (w.heap.size + 1) _ _ _ _ rfl (setRow_heap _ _ _ _ _ _ HX4.out) Tryd.underlying32 rfl HIT.out) rfl ⟨rfl, HB4.out.trans (((Kept.refl [w.heap.size + 1] w4).setRow (by simp) _).toBelow (B := w.heap.size) (by simp) HB4.out.size)⟩
end Go.Proofs.YtnoilogepkelaaaDoor
