/-
  The tied card of SealTags.
-/
import Derived.Test.YtnoilogepkelaaaDoorBSea
import Derived.Test.YtnoilogepkelaaaDoorBSeaP
import Derived.Test.YtnoilogepkelaaaDoorRows
import Derived.Test.YtnoilogepkelaaaDoorBBase
import Derived.Test.YtnoilogepkelaaaDoorBSha
import Derived.Test.YtnoilogepkelaaaDoorTie
import Derived.Test.YtnoilogepkelaaaDoorCards
import Derived.SevenTiedAt
namespace Go.Proofs.YtnoilogepkelaaaDoor
set_option linter.unusedVariables false
set_option linter.unusedSimpArgs false
open Go Go.RowKit

theorem OwnB.drew {E base : Nat} {w : World} {v : Value} {xs : List (BitVec 8)} (h : OwnB E base w v xs) : OwnB E base w.drew v xs := h
set_option maxRecDepth 100000 in
set_option maxHeartbeats 1000000 in
theorem lnumber_any (n k : Nat) (hn : n < 18446744073709551616) (hk : k ≤ 8) (w : World) : Calls Tryd.prog 57 #[.int .u64 (n : Int), .int .i64 (k : Int)] w (RetB w (Num.num n k)) := by
  have HT := Lib.hid (fun i (h : i < k) => Num.num_take n k i h)
  have HL := Lib.hid (Num.num_length n k)
  have HA := Lib.hid (show (Num.num n k).take k = Num.num n k from List.take_of_length_le (by rw [Num.num_length]; omega))
  have HZ := Lib.hid (show ∀ i, ((Num.num n k).take i).length ≤ 8 from fun i => by rw [List.length_take, Num.num_length]; omega)
  generalize Num.num n k = N at *
  go_enter Tryd.func57, Tryd.ntmps57
  go_wp2
  go_loopw [5, 6] (fun s4 s5 wr => ∃ i : Nat, i ≤ k ∧ s5 = .int .i64 ((k : Int) - 1 - i) ∧ Hid (OwnB 5 w.heap.size wr s4 (N.take i)) ∧ Hid (Below w.heap.size w wr)) (fun _ s5 _ => (intOf s5 + 1).toNat)
  case atStart => exact ⟨0, by omega, by simp, OwnB.nil _ _ _, Below.refl _ _⟩
  case round =>
    obtain ⟨i, hi, rfl, HO, HB⟩ := hrel
    have hsz := HB.out.size
    by_cases hlt : i < k
    · obtain ⟨j, hj⟩ : ∃ j : Nat, k - 1 - i = j := ⟨_, rfl⟩
      have e : ((k : Int) - 1 - i) = (j : Int) := by omega
      rw [e]
      have HTI := Lib.hid (HT.out i hlt)
      rw [hj] at HTI
      have hj7 : j ≤ 7 := by omega
      clear hj
      have HE := Lib.hid e
      clear e
      have HV := Lib.hid (show (n : Int) / 2 ^ (8 * j) % 256 = bv (BitVec.ofNat 8 (n / 2 ^ (8 * j))) by rw [bv_ofNat]; simp)
      go_wp2_with (at_builtin; refine wpList_append_b rfl (.tmp 13) (.tmp 20) 22 5 rfl Tryd.underlying22 info_u8 w.heap.size _ _ (HO.out.alloc _) rfl _ [BitVec.ofNat 8 (n / 2 ^ (8 * j))] (one_byte _ _ _ HV.out) rfl (by have := HZ.out i; simp only [List.length_singleton]; omega) (by simp; omega) ?_; intro v3 w3 ho hg hn'; rw [← HTI.out] at ho; have HO3 := Lib.hid ho; have HB3 := Lib.hid ((HB.out.alloc hsz _).grown hg (by simp; omega) (fun k e => (World.ownsRow.lt HO.out k e).1)); clear ho hg hn')
      have he := HE.out
      exact ⟨⟨i + 1, by omega, by congr 1; omega, HO3, HB3⟩, by simp [intOf] <;> omega⟩
    · obtain rfl : i = k := by omega
      rw [HA.out] at HO
      rw [show ((i : Int) - 1 - i) = -1 by omega]
      go_wp2
      go_ret
      exact ⟨_, rfl, HO.out, HB.out⟩
/-- The text that is told apart by its tag. -/
theorem tagText_take (ctx s : List (BitVec 8)) (pos n : Nat) (h : 4 ≤ s.length) : Sea.tagText ctx pos (Num.val4 s) ((s.drop 4).take n) = Num.num ctx.length 4 ++ ctx ++ Num.num pos 8 ++ s.take (4 + n) := by
  unfold Sea.tagText
  rw [Num.num_val4 s h, List.append_assoc (Num.num ctx.length 4 ++ ctx ++ Num.num pos 8), List.take_add]
/-- What opens has the tag of its body. -/
theorem open_tagged (key ctx s : List (BitVec 8)) (pos : Nat) (h : 100 ≤ s.length) (ht : Sea.tag_ key ctx pos (Num.val4 s) ((s.drop 4).take (s.length - 36)) ≠ s.drop (s.length - 32)) : Sea.open_ key ctx pos s = none := by
  unfold Sea.open_
  by_cases h1 : s.length < 100 ∨ Sea.bucket (s.length - 40) ≠ s.length - 36
  · rw [if_pos h1]
  · rw [if_neg h1, if_pos ht]
/-- What Open answers, told once. -/
theorem open_one (key ctx : List (BitVec 8)) (hk : key.length = 32) (hcl : ctx.length ≤ 1000000) (vc : Value) (pos ep0 : Nat) (hp : pos < 18446744073709551616) (s : List (BitVec 8)) (hlen : s.length ≤ 1000000) :
    ∃ (L : Nat) (x er : Int), (er = 0 ∨ er = 9) ∧ (Sea.open_ key ctx pos s = none → L = 0 ∧ x = 0 ∧ er = 9) ∧ ∀ v w, SlB w v s → SlB w vc ctx → Glob w →
      Calls Tryd.prog 55 #[.agg (bytes key), .agg #[vc, .int .u64 (pos : Int), .int .u32 (ep0 : Int)], v] w fun e w' => ∃ a c, e = .returned (.tuple #[.slice a L c, .int .u32 x, .int .i64 er]) ∧ Below w.heap.size w w' := by
  cases ho : Sea.open_ key ctx pos s with
  | none => exact ⟨0, 0, 9, .inr rfl, fun _ => ⟨rfl, rfl, rfl⟩, fun v w hs hc hG => (open_no ho hk hcl vc ep0 hp v w hs hc hlen hG).mono (by rintro e w' ⟨rfl, hb⟩; exact ⟨_, _, rfl, hb⟩)⟩
  | some r =>
    obtain ⟨t, ep⟩ := r
    refine ⟨t.length, ep, 0, .inl rfl, fun h => (by cases h), fun v w hs hc hG => (open_yes ho hk hcl vc ep0 hp v w hs hc hlen hG).mono ?_⟩
    rintro e w' ⟨v', rfl, hown, hb⟩
    obtain ⟨a, c, rfl⟩ := hown.sl.len
    exact ⟨a, c, rfl, hb⟩
end Go.Proofs.YtnoilogepkelaaaDoor
namespace Go.Proofs.YtnoilogepkelaaaDoor
set_option linter.unusedVariables false
set_option linter.unusedSimpArgs false
open Go Go.RowKit

set_option maxRecDepth 100000 in
set_option maxHeartbeats 2000000 in
theorem tags_short {w : World} (key : List (BitVec 8)) (hk : key.length = 32) (vc : Value) (ctx : List (BitVec 8)) (hcs : SlB w vc ctx) (pos ep : Nat) (hp : pos < 18446744073709551616) (he : ep < 4294967296) (v2 : Value) (s : List (BitVec 8)) (hs : SlB w v2 s) (hG : Glob w)
    (h : (3000 < s.length ∨ 200 < ctx.length) ∨ s.length < 100) :
    Calls Tryd.prog 20 #[.agg (bytes key), .agg #[vc, .int .u64 (pos : Int), .int .u32 (ep : Int)], v2] w fun e w' => e = .returned (.bool true) ∧ Below w.heap.size w w' := by
  have hgz := hG.size
  obtain ⟨ac, capc, rfl⟩ := hcs.len
  obtain ⟨as_, caps, rfl⟩ := hs.len
  have HAW := Lib.hid (fun W (hB : Below w.heap.size w W) => sawake_any W (hG.below hB hgz))
  have HIK := Lib.hid (show (Tryd.prog.info? 32).map (·.size) = some (bytes key).size by rw [bytes_size, hk]; kernel_rfl)
  have HIP := Lib.hid (fun (x : Int) => (show (Tryd.prog.info? 70).map (·.size) = some (#[.slice ac ctx.length capc, .int .u64 (pos : Int), .int .u32 x] : Array Value).size by kernel_rfl))
  have HLO := Lib.hid (fun q (hq : q = (decide (3000 < s.length) || decide (200 < ctx.length))) W g E fr hg => long_any q ac ctx.length capc (pos : Int) (ep : Int) as_ s.length caps g E fr W hg hq)
  by_cases hlong : 3000 < s.length ∨ 200 < ctx.length
  · have HLT := Lib.hid (fun W g E fr hg => HLO.out true (by simp; omega) W g E fr hg)
    generalize bytes key = kb at *
    clear hlong HLO hk hG hcs hs h
    generalize ctx.length = m at *
    generalize s.length = n at *
    go_enter Tryd.func20, Tryd.ntmps20
    go_upto_region 1 with fail
    obtain ⟨X, hX, hBX, hXs, hX0, hX1⟩ := alloc2 w (.cells kb 32) (.cells #[.slice ac m capc, .int .u64 (pos : Int), .int .u32 (ep : Int)] 70)
    rw [hX]
    have HBX := Lib.hid hBX
    have HX1 := Lib.hid hX1
    clear hX hBX hXs hX0 hX1
    go_wp2_with (first
      | (refine wpList_load_row rfl 70 (.tmp 4) rfl (w.heap.size + 1) rfl _ _ _ _ HX1.out Tryd.underlying70 rfl (HIP.out _) ?_)
      | (go_at_call 56; (with_reducible refine Calls.mono (HLT.out _ _ _ _ (heap_alloc_new X _)) ?_); rintro e w1 ⟨rfl, hb⟩; have HB1 := Lib.hid (HBX.out.trans ((((Below.refl X.heap.size X).alloc (Nat.le_refl _) _).trans (hb.mono (by simp))).mono HBX.out.size)); clear hb)
      | (go_at_call 52; (with_reducible refine Calls.mono (HAW.out _ HB1.out) ?_); rintro e w2 ⟨rfl, hb⟩; have HB2 := Lib.hid (HB1.out.trans (hb.mono HB1.out.size)); clear hb))
    go_ret
    exact ⟨rfl, HB2.out⟩
  · have HLT := Lib.hid (fun W g E fr hg => HLO.out false (by simp; omega) W g E fr hg)
    have hsl : s.length < 100 := by omega
    have HOP := Lib.hid (fun W (hB : Below w.heap.size w W) => open_short (bytes key) #[.slice ac ctx.length capc, .int .u64 (pos : Int), .int .u32 (ep : Int)] _ s W (hs.below hB (Nat.le_refl _)) (by omega) (.inl hsl))
    generalize bytes key = kb at *
    clear hlong HLO hk hG hcs hs h
    generalize ctx.length = m at *
    generalize s.length = n at *
    have hn1 : (n : Int) - 36 < 64 := by omega
    have hn2 : (n : Int) < 100 := by omega
    go_enter Tryd.func20, Tryd.ntmps20
    go_upto_region 1 with fail
    obtain ⟨X, hX, hBX, hXs, hX0, hX1⟩ := alloc2 w (.cells kb 32) (.cells #[.slice ac m capc, .int .u64 (pos : Int), .int .u32 (ep : Int)] 70)
    rw [hX]
    have HBX := Lib.hid hBX
    have HX1 := Lib.hid hX1
    have HXR := Lib.hid (fun W (hW : Below X.heap.size X W) => And.intro ((hW.block w.heap.size (by omega)).trans hX0) ((hW.block (w.heap.size + 1) (by omega)).trans hX1))
    clear hX hBX hXs hX0 hX1
    go_upto_region 3 with (first
      | (refine wpList_load_row rfl 70 (.tmp 4) rfl (w.heap.size + 1) rfl _ _ _ _ HX1.out Tryd.underlying70 rfl (HIP.out _) ?_)
      | (go_at_call 56; (with_reducible refine Calls.mono (HLT.out _ _ _ _ (heap_alloc_new X _)) ?_); rintro e w1 ⟨rfl, hb⟩; have HB1 := Lib.hid (((Below.refl X.heap.size X).alloc (Nat.le_refl _) _).trans (hb.mono (by simp))); clear hb))
    have HW1 := Lib.hid (HBX.out.trans (HB1.out.mono HBX.out.size))
    have HR1 := Lib.hid (HXR.out _ HB1.out)
    go_wp2_with (first
      | (refine wpList_load_row rfl 32 (.tmp 3) rfl w.heap.size rfl _ _ _ _ HR1.out.1 Tryd.underlying32 rfl HIK.out ?_)
      | (refine wpList_load_row rfl 70 (.tmp 4) rfl (w.heap.size + 1) rfl _ _ _ _ HR1.out.2 Tryd.underlying70 rfl (HIP.out _) ?_)
      | (go_at_call 55; (with_reducible refine Calls.mono (HOP.out _ HW1.out) ?_); rintro e w3 ⟨rfl, hb⟩; have HW3 := Lib.hid (HW1.out.trans (hb.mono HW1.out.size)); clear hb)
      | (go_at_call 52; (with_reducible refine Calls.mono (HAW.out _ HW3.out) ?_); rintro e w9 ⟨rfl, hb⟩; have HB9 := Lib.hid (HW3.out.trans (hb.mono HW3.out.size)); clear hb))
    go_ret
    exact ⟨rfl, HB9.out⟩
end Go.Proofs.YtnoilogepkelaaaDoor
namespace Go.Proofs.YtnoilogepkelaaaDoor
set_option linter.unusedVariables false
set_option linter.unusedSimpArgs false
open Go Go.RowKit

theorem strs_eq (xs ys : List (BitVec 8)) : ∃ q : Bool, (q = true ↔ xs = ys) ∧ ((strB xs).toList == (strB ys).toList) = q ∧ ((strB xs).toList != (strB ys).toList) = !q := by
  by_cases e : xs = ys
  · subst e
    exact ⟨true, by simp, by simp, by simp⟩
  · have e2 : ¬ (strB xs).toList = (strB ys).toList := fun h => e (strB_inj (ByteArray.ext (Array.toList_inj.1 (by rw [ByteArray.toList_eq, ByteArray.toList_eq] at h; exact h))))
    exact ⟨false, by simp [e], by simpa using e2, by simpa using e2⟩

set_option maxRecDepth 100000 in
set_option maxHeartbeats 8000000 in
theorem tags_long {w : World} (key : List (BitVec 8)) (hk : key.length = 32) (vc : Value) (ctx : List (BitVec 8)) (hcs : SlB w vc ctx) (pos ep : Nat) (hp : pos < 18446744073709551616) (he : ep < 4294967296) (v2 : Value) (s : List (BitVec 8)) (hs : SlB w v2 s) (hG : Glob w)
    (h1 : s.length ≤ 3000) (h2 : ctx.length ≤ 200) (h3 : 100 ≤ s.length) :
    Calls Tryd.prog 20 #[.agg (bytes key), .agg #[vc, .int .u64 (pos : Int), .int .u32 (ep : Int)], v2] w fun e w' => e = .returned (.bool true) ∧ Below w.heap.size w w' := by
  have hgz := hG.size
  obtain ⟨ac, capc, rfl⟩ := hcs.len
  obtain ⟨b, off, caps, rfl, hcap, hb⟩ := hs.open_ s.length rfl (by omega)
  have HAW := Lib.hid (fun W (hB : Below w.heap.size w W) => sawake_any W (hG.below hB hgz))
  have HIK := Lib.hid (show (Tryd.prog.info? 32).map (·.size) = some (bytes key).size by rw [bytes_size, hk]; kernel_rfl)
  have HIP := Lib.hid (fun (x : Int) => (show (Tryd.prog.info? 70).map (·.size) = some (#[.slice ac ctx.length capc, .int .u64 (pos : Int), .int .u32 x] : Array Value).size by kernel_rfl))
  have HLT := Lib.hid (fun W g E fr hg => long_any false ac ctx.length capc (pos : Int) (ep : Int) (some ⟨b, off, none⟩) s.length caps g E fr W hg (by simp; omega))
  obtain ⟨L, x, er, her, hno, hop⟩ := open_one key ctx hk (by omega) (.slice ac ctx.length capc) pos ep hp s (by omega)
  have HOP := Lib.hid (fun W (hB : Below w.heap.size w W) => hop _ W (hs.below hB (Nat.le_refl _)) (hcs.below hB (Nat.le_refl _)) (hG.below hB hgz))
  have HN4 := Lib.hid (show ∀ W, Calls Tryd.prog 57 #[.int .u64 (ctx.length : Int), .int .i64 4] W (RetB W (Num.num ctx.length 4)) from fun W => lnumber_any ctx.length 4 (by omega) (by omega) W)
  have HN8 := Lib.hid (show ∀ W, Calls Tryd.prog 57 #[.int .u64 (pos : Int), .int .i64 8] W (RetB W (Num.num pos 8)) from fun W => lnumber_any pos 8 hp (by omega) W)
  have HDR := Lib.hid (fun W u (h : SlB W u ctx) (hB : Below w.heap.size w W) => derive1 key Sea.tagName ctx hk (by simp [Sea.tagName]) u W 22 h (by omega) (hG.below hB hgz))
  rw [← strB_tag] at HDR
  have hown : (Hma.derive_ key Sea.tagName [ctx]).length = 32 := Hma.derive_length _ _ _
  have hTT := tagText_take ctx s pos (s.length - 36) (by omega)
  have htx : (Sea.tagText ctx pos (Num.val4 s) ((s.drop 4).take (s.length - 36))).length ≤ 20000000 := by rw [hTT]; simp [Num.num_length]; omega
  have HMA := Lib.hid (fun v0 v1 W (h0 : SlB W v0 (Hma.derive_ key Sea.tagName [ctx])) (h1 : SlB W v1 (Sea.tagText ctx pos (Num.val4 s) ((s.drop 4).take (s.length - 36)))) (hB : Below w.heap.size w W) => hmac_any (Hma.derive_ key Sea.tagName [ctx]) (Sea.tagText ctx pos (Num.val4 s) ((s.drop 4).take (s.length - 36))) v0 v1 W h0 h1 (by omega) (by omega) (hG.below hB hgz))
  rw [show Hma.tag (Hma.derive_ key Sea.tagName [ctx]) (Sea.tagText ctx pos (Num.val4 s) ((s.drop 4).take (s.length - 36))) = Sea.tag_ key ctx pos (Num.val4 s) ((s.drop 4).take (s.length - 36)) from rfl] at HMA
  have htl := Sea.tag_length key ctx pos (Num.val4 s) ((s.drop 4).take (s.length - 36))
  obtain ⟨q, hq, hqe, hqn⟩ := strs_eq (Sea.tag_ key ctx pos (Num.val4 s) ((s.drop 4).take (s.length - 36))) (s.drop (s.length - 32))
  have HQ := Lib.hid (show q = false → L = 0 ∧ x = 0 ∧ er = 9 from fun h => hno (open_tagged key ctx s pos h3 (fun e => by rw [hq.2 e] at h; cases h)))
  have HIT := Lib.hid (show (Tryd.prog.info? 32).map (·.size) = some (bytes (Sea.tag_ key ctx pos (Num.val4 s) ((s.drop 4).take (s.length - 36)))).size by rw [bytes_size, htl]; kernel_rfl)
  have HIO := Lib.hid (show (Tryd.prog.info? 32).map (·.size) = some (bytes (Hma.derive_ key Sea.tagName [ctx])).size by rw [bytes_size, hown]; kernel_rfl)
  obtain ⟨T, hT⟩ : ∃ T, Sea.tag_ key ctx pos (Num.val4 s) ((s.drop 4).take (s.length - 36)) = T := ⟨_, rfl⟩
  rw [hT] at HMA HIT htl hqe hqn
  obtain ⟨TT, hTTe⟩ : ∃ TT, Sea.tagText ctx pos (Num.val4 s) ((s.drop 4).take (s.length - 36)) = TT := ⟨_, rfl⟩
  rw [hTTe] at HMA hTT
  obtain ⟨M, hM⟩ : ∃ M, s.length = M + 36 := ⟨s.length - 36, by omega⟩
  obtain ⟨TL, hTL⟩ : ∃ TL, s.drop (s.length - 32) = TL := ⟨_, rfl⟩
  obtain ⟨FS, hFS⟩ : ∃ FS, s.take (4 + M) = FS := ⟨_, rfl⟩
  rw [hTL] at hqe hqn
  rw [show s.length - 36 = M by omega, hFS] at hTT
  have hFSl : FS.length = 4 + M := by rw [← hFS]; simp; omega
  obtain ⟨D, hD⟩ : ∃ D, Hma.derive_ key Sea.tagName [ctx] = D := ⟨_, rfl⟩
  rw [hD] at HMA HIO hown
  simp only [hD] at HDR
  obtain ⟨kb, hkb⟩ : ∃ kb, bytes key = kb := ⟨_, rfl⟩
  rw [hkb] at HIK HDR HOP ⊢
  obtain ⟨n8, hn8⟩ : ∃ n8, Num.num pos 8 = n8 := ⟨_, rfl⟩
  obtain ⟨nc, hnc⟩ : ∃ nc, Num.num ctx.length 4 = nc := ⟨_, rfl⟩
  have hl8 : n8.length = 8 := by rw [← hn8]; exact Num.num_length _ _
  have hlc : nc.length = 4 := by rw [← hnc]; exact Num.num_length _ _
  rw [hn8] at HN8 hTT
  rw [hnc] at HN4 hTT
  have HTT := Lib.hid hTT
  have HTL := Lib.hid htl
  have HOL := Lib.hid hown
  have HLN := Lib.hid (And.intro hlc (And.intro hl8 (And.intro h2 hFSl)))
  have HC := Lib.hid (fun W (h : Below w.heap.size w W) => hcs.below h (Nat.le_refl _))
  have HFS := Lib.hid (fun W (h : Below w.heap.size w W) => (show SlB W (.slice (some ⟨b, off, none⟩) (4 + M) caps) FS by
    have g1 := (hs.below h (Nat.le_refl _)).take (4 + M) (by omega)
    rwa [hFS] at g1))
  have HTS := Lib.hid (fun W (h : Below w.heap.size w W) => (show SlB W (.slice (some ⟨b, off + (4 + M), none⟩) (M + 36 - (4 + M)) (caps - (4 + M))) TL by
    have g1 := (hs.below h (Nat.le_refl _)).drop (s.length - 32) (by omega)
    rw [hTL] at g1
    rwa [hM, show M + 36 - 32 = 4 + M by omega] at g1))
  rw [hM] at HLT HOP hcap ⊢
  have hM2 : (64 : Int) ≤ (M : Int) := by omega
  have hM3 : (M : Int) ≤ 3000 := by omega
  have HWI := Lib.hid (show IntKind.i64.wrap (4 + (M : Int)) = 4 + (M : Int) ∧ (4 + (M : Int)).toNat = 4 + M ∧ 4 + (M : Int) ≤ (M : Int) + 36 ∧ 4 + (M : Int) ≤ (caps : Int) ∧ ¬ caps = 4 + M ∧ 0 ≤ 4 + (M : Int) ∧ IntKind.u64.wrap (ctx.length : Int) = (ctx.length : Int) by
    refine ⟨?_, by omega, by omega, by omega, by omega, by omega, ?_⟩
    · rw [IntKind.wrap_i64]; omega
    · rw [wrap_u64_mod]; omega)
  obtain ⟨TS, hTS⟩ : ∃ TS, strB T = TS := ⟨_, rfl⟩
  obtain ⟨LS, hLS⟩ : ∃ LS, strB TL = LS := ⟨_, rfl⟩
  rw [hTS, hLS] at hqe hqn
  have HTX := Lib.hid hTS
  have HLX := Lib.hid hLS
  have HQE := Lib.hid (And.intro hqe hqn)
  have HER := Lib.hid her
  clear hk hcs hs hG hgz h1 h2 h3 hop hno her hown hTT htx htl hq hqe hqn hT hTTe hM hTL hFS hFSl hD hkb hn8 hnc hl8 hlc hTS hLS
  generalize hm : ctx.length = m at *
  have HCM := Lib.hid hm
  clear hm
  go_enter Tryd.func20, Tryd.ntmps20
  go_upto_region 1 with fail
  obtain ⟨X, hX, hBX, hXs, hX0, hX1⟩ := alloc2 w (.cells kb 32) (.cells #[.slice ac m capc, .int .u64 (pos : Int), .int .u32 (ep : Int)] 70)
  rw [hX]
  have HBX := Lib.hid hBX
  have HX1 := Lib.hid hX1
  have HXR := Lib.hid (fun W (hW : Below X.heap.size X W) => And.intro ((hW.block w.heap.size (by omega)).trans hX0) ((hW.block (w.heap.size + 1) (by omega)).trans hX1))
  have HXC := Lib.hid (fun W (hW : Below X.heap.size X W) => And.intro (show W.cell? ⟨w.heap.size + 1, 0, none⟩ = some (.slice ac m capc) from cell_of_row W (w.heap.size + 1) 0 _ _ _ ((hW.block _ (by omega)).trans hX1))
    (show W.cell? ⟨w.heap.size + 1, 1, none⟩ = some (.int .u64 (pos : Int)) from cell_of_row W (w.heap.size + 1) 1 _ _ _ ((hW.block _ (by omega)).trans hX1)))
  clear hX hBX hXs hX0 hX1
  go_upto_region 3 with (first
    | (refine wpList_load_row rfl 70 (.tmp 4) rfl (w.heap.size + 1) rfl _ _ _ _ HX1.out Tryd.underlying70 rfl (HIP.out _) ?_)
    | (go_at_call 56; (with_reducible refine Calls.mono (HLT.out _ _ _ _ (heap_alloc_new X _)) ?_); rintro e w1 ⟨rfl, hb⟩; have HB1 := Lib.hid (((Below.refl X.heap.size X).alloc (Nat.le_refl _) _).trans (hb.mono (by simp))); clear hb))
  have HW1 := Lib.hid (HBX.out.trans (HB1.out.mono HBX.out.size))
  have HR1 := Lib.hid (HXR.out _ HB1.out)
  go_upto_region 7 with (first
    | (refine wpList_load_row rfl 32 (.tmp 3) rfl w.heap.size rfl _ _ _ _ HR1.out.1 Tryd.underlying32 rfl HIK.out ?_)
    | (refine wpList_load_row rfl 70 (.tmp 4) rfl (w.heap.size + 1) rfl _ _ _ _ HR1.out.2 Tryd.underlying70 rfl (HIP.out _) ?_)
    | (go_at_call 55; (with_reducible refine Calls.mono (HOP.out _ HW1.out) ?_); rintro e w3 ⟨a3, c3, rfl, hb⟩; have HB3 := Lib.hid (HB1.out.trans (hb.mono HB1.out.size)); clear hb))
  have HW3 := Lib.hid (HBX.out.trans (HB3.out.mono HBX.out.size))
  have HR3 := Lib.hid (HXR.out _ HB3.out)
  have c30 := (HXC.out _ HB3.out).1
  go_upto_region 8 with (first
    | (refine wpList_load_row rfl 32 (.tmp 3) rfl w.heap.size rfl _ _ _ _ HR3.out.1 Tryd.underlying32 rfl HIK.out ?_)
    | (go_at_call 45; (with_reducible refine Calls.mono (HDR.out w3 _ (HC.out _ HW3.out) HW3.out) ?_); rintro e w4 ⟨rfl, hb⟩; have HB4 := Lib.hid (HB3.out.trans (hb.mono HB3.out.size)); clear hb)
    | (refine wpList_store_row rfl 32 (.tmp 11) (.tmp 46) rfl _ _ rfl rfl _ _ (heap_alloc_new _ _) HIO.out (by rw [bytes_size, HOL.out]; rfl) (bytes_one _) ?_; rw [World.setRow_alloc_new]))
  obtain ⟨Y, hY, hBY, hYs, hY0⟩ := alloc1 w4 (.cells (bytes D) 32)
  rw [hY]
  have hz4 := HB4.out.size
  have hxy := HB4.out.trans (hBY.mono hz4)
  have HXY := Lib.hid hxy
  have HBY := Lib.hid (HBX.out.trans (hxy.mono HBX.out.size))
  have HYO := Lib.hid (fun W (hW : Below Y.heap.size Y W) => (show SlB W (.slice (some ⟨w4.heap.size, 0, none⟩) 32 32) D from sl_arr D ((hW.block _ (by omega)).trans hY0) HOL.out.symm (by rw [HOL.out]; omega)))
  have HCY := Lib.hid (fun W (hW : Below Y.heap.size Y W) => HC.out W (HBY.out.trans (hW.mono HBY.out.size)))
  have HFY := Lib.hid (fun W (hW : Below Y.heap.size Y W) => HFS.out W (HBY.out.trans (hW.mono HBY.out.size)))
  have HTY := Lib.hid (fun W (hW : Below Y.heap.size Y W) => HTS.out W (HBY.out.trans (hW.mono HBY.out.size)))
  have HY1 := Lib.hid (fun W (hW : Below Y.heap.size Y W) => (HXC.out W (hxy.trans (hW.mono hxy.size))).1)
  have HY2 := Lib.hid (fun W (hW : Below Y.heap.size Y W) => (HXC.out W (hxy.trans (hW.mono hxy.size))).2)
  clear hY hBY hYs hY0 hz4 hxy HR1 HR3 HW1 HW3 HB1 HB3 HB4 HC HFS HTS HXR HXC HX1 c30 HDR HOP HLT HXY
  have ⟨hw1, hw2, hw3, hw4, hw5, hw6, hw7⟩ := HWI.out
  try simp only [Act.put]
  go_cut [12] (fun s12 wx => Hid (OwnB 5 Y.heap.size wx s12 (nc ++ ctx)) ∧ Hid (Below Y.heap.size Y wx))
  case first =>
    -- REG A BEGIN
    refine wp_region_held_drew (S := fun W => Below Y.heap.size Y W) (by kernel_rfl) ((Below.refl Y.heap.size Y).drew) (fun hHeld => ?_)
    refine wpAnyH_take (i := 0) (v := ?v1) rfl (by kernel_rfl) (by kernel_rfl) (by kernel_rfl) (fun _ _ _ h => h) (Or.inl ⟨by rfl, ?y1⟩) (by assumption) ?r1
    case y1 =>
      intro w' hSw
      go_split_ands
      go_simp
      try with_reducible rfl
    try simp only [List.getElem_toArray, List.getElem_cons_zero, List.getElem_cons_succ, Act.put, List.setIfInBounds_toArray, List.set_cons_zero, List.set_cons_succ]
    refine wpAnyH_take (i := 1) (v := ?v2) rfl (by kernel_rfl) (by kernel_rfl) (by kernel_rfl) (fun _ _ _ h => h) (Or.inl ⟨by rfl, ?y2⟩) (by assumption) ?r2
    case y2 =>
      intro w' hSw
      have c := HY1.out w' hSw
      go_split_ands
      go_simp
      try with_reducible rfl
    try simp only [List.getElem_toArray, List.getElem_cons_zero, List.getElem_cons_succ, Act.put, List.setIfInBounds_toArray, List.set_cons_zero, List.set_cons_succ]
    refine wpAnyH_take (i := 2) (v := ?v3) rfl (by kernel_rfl) (by kernel_rfl) (by kernel_rfl) (fun _ _ _ h => h) (Or.inl ⟨by rfl, ?y3⟩) (by assumption) ?r3
    case y3 =>
      intro w' hSw
      go_split_ands
      go_simp
      try with_reducible rfl
    try simp only [List.getElem_toArray, List.getElem_cons_zero, List.getElem_cons_succ, Act.put, List.setIfInBounds_toArray, List.set_cons_zero, List.set_cons_succ]
    refine wpAnyH_take (i := 3) (v := ?v4) rfl (by kernel_rfl) (by kernel_rfl) (by kernel_rfl) (fun _ _ _ h => h) (Or.inl ⟨by rfl, ?y4⟩) (by assumption) ?r4
    case y4 =>
      intro w' hSw
      go_split_ands
      go_simp
      try with_reducible rfl
    try simp only [List.getElem_toArray, List.getElem_cons_zero, List.getElem_cons_succ, Act.put, List.setIfInBounds_toArray, List.set_cons_zero, List.set_cons_succ]
    refine wpAnyH_take (i := 5) (v := ?v5) rfl (by kernel_rfl) (by kernel_rfl) (by kernel_rfl) (fun _ _ _ h => h) (Or.inl ⟨by rfl, ?y5⟩) (by assumption) ?r5
    case y5 =>
      intro w' hSw
      go_split_ands
      go_simp
      try with_reducible rfl
    try simp only [List.getElem_toArray, List.getElem_cons_zero, List.getElem_cons_succ, Act.put, List.setIfInBounds_toArray, List.set_cons_zero, List.set_cons_succ]
    refine wpAnyH_take (i := 6) (v := ?v6) rfl (by kernel_rfl) (by kernel_rfl) (by kernel_rfl) (fun _ _ _ h => h) (Or.inl ⟨by rfl, ?y6⟩) (by assumption) ?r6
    case y6 =>
      intro w' hSw
      have c := HY1.out w' hSw
      go_split_ands
      go_simp
      try with_reducible rfl
    try simp only [List.getElem_toArray, List.getElem_cons_zero, List.getElem_cons_succ, Act.put, List.setIfInBounds_toArray, List.set_cons_zero, List.set_cons_succ]
    refine wpAnyH_ready (rs := [4]) (by kernel_rfl) (by simp) ?_
    refine AllReadyH.cons (i := 4) rfl (fun K hK => ?_) AllReadyH.nil
    go_simp
    go_at_call 57
    (with_reducible refine Calls.mono (HN4.out _) ?_)
    rintro e w_1 ⟨v_3, rfl, ho, hb⟩
    obtain ⟨a_4, c_5, rfl⟩ := ho.sl.len
    have HB_2 := Lib.hid (((Below.refl Y.heap.size Y).drew).trans (hb.mono ((Below.refl Y.heap.size Y).drew).size))
    have K_6 := Lib.hid (ho.mono ((Below.refl Y.heap.size Y).drew).size)
    clear hb ho
    refine hK.out _ _ (HB_2.out) (fun hHeld' => ?_)
    clear hHeld hK K
    have hHeld := hHeld'
    clear hHeld'
    try simp only [List.getElem_toArray, List.getElem_cons_zero, List.getElem_cons_succ, Act.put, List.setIfInBounds_toArray, List.set_cons_zero, List.set_cons_succ]
    refine wpAnyH_ready (rs := [7]) (by kernel_rfl) (by simp) ?_
    refine AllReadyH.cons (i := 7) rfl (fun K hK => ?_) AllReadyH.nil
    refine any_of_list (by rfl) (fun Q' hQ' => ?_)
    try simp only [List.getElem_toArray, List.getElem_cons_zero, List.getElem_cons_succ]
    refine wpList_append_b rfl (.tmp 51) (.tmp 53) 22 5 rfl Tryd.underlying22 info_u8 Y.heap.size _ _ K_6.out rfl _ _ (HCY.out _ (HB_2.out)) rfl (by have := HLN.out; have := HCM.out; omega) (HB_2.out).size ?_
    intro v_9 w_7 ho hg hn'
    have HB_8 := Lib.hid ((HB_2.out).grown hg (HB_2.out).size (fun k e => (World.ownsRow.lt K_6.out k e).1))
    have K_10 := Lib.hid ho
    clear ho hg hn'
    refine hQ' _ _ (hK.out _ _ (HB_8.out) (fun hHeld' => ?_))
    clear hHeld hK K hQ' Q'
    have hHeld := hHeld'
    clear hHeld'
    try simp only [List.getElem_toArray, List.getElem_cons_zero, List.getElem_cons_succ, Act.put, List.setIfInBounds_toArray, List.set_cons_zero, List.set_cons_succ]
    refine wpAnyH_take (i := 8) (v := ?v7) rfl (by kernel_rfl) (by kernel_rfl) (by kernel_rfl) (fun _ _ _ h => h) (Or.inl ⟨by rfl, ?y7⟩) (by assumption) ?r7
    case y7 =>
      intro w' hSw
      go_split_ands
      go_simp
      try with_reducible rfl
    try simp only [List.getElem_toArray, List.getElem_cons_zero, List.getElem_cons_succ, Act.put, List.setIfInBounds_toArray, List.set_cons_zero, List.set_cons_succ]
    refine wpAnyH_done (by kernel_rfl) ?_ _
    go_wp2_with fail
    go_meet
    exact ⟨K_10, Lib.hid (HB_8.out)⟩
    -- REG A END
  case rest =>
    obtain ⟨HO8, HB8⟩ := hcut
    go_upto_region 9 with fail
    have ⟨Z, hZc⟩ : ∃ Z, Z = wc := ⟨_, rfl⟩
    subst hZc
    have HFZ := Lib.hid (fun W (hW : Below Y.heap.size Z W) => HFY.out W (HB8.out.trans hW))
    have HZ2 := Lib.hid (fun W (hW : Below Y.heap.size Z W) => HY2.out W (HB8.out.trans hW))
    go_cut [12] (fun s12 wx => Hid (OwnB 5 Y.heap.size wx s12 TT) ∧ Hid (Below Y.heap.size Y wx))
    case first =>
      -- REG B BEGIN
      refine wp_region_held_drew (S := fun W => Below Y.heap.size Z W) (by kernel_rfl) ((Below.refl Y.heap.size Z).drew) (fun hHeld => ?_)
      refine wpAnyH_take (i := 0) (v := ?v8) rfl (by kernel_rfl) (by kernel_rfl) (by kernel_rfl) (fun _ _ _ h => h) (Or.inl ⟨by rfl, ?y8⟩) (by assumption) ?r8
      case y8 =>
        intro w' hSw
        go_split_ands
        go_simp
        try with_reducible rfl
      try simp only [List.getElem_toArray, List.getElem_cons_zero, List.getElem_cons_succ, Act.put, List.setIfInBounds_toArray, List.set_cons_zero, List.set_cons_succ]
      refine wpAnyH_take (i := 1) (v := ?v9) rfl (by kernel_rfl) (by kernel_rfl) (by kernel_rfl) (fun _ _ _ h => h) (Or.inl ⟨by rfl, ?y9⟩) (by assumption) ?r9
      case y9 =>
        intro w' hSw
        go_split_ands
        go_simp
        try with_reducible rfl
      try simp only [List.getElem_toArray, List.getElem_cons_zero, List.getElem_cons_succ, Act.put, List.setIfInBounds_toArray, List.set_cons_zero, List.set_cons_succ]
      refine wpAnyH_take (i := 2) (v := ?v10) rfl (by kernel_rfl) (by kernel_rfl) (by kernel_rfl) (fun _ _ _ h => h) (Or.inl ⟨by rfl, ?y10⟩) (by assumption) ?r10
      case y10 =>
        intro w' hSw
        have c := HZ2.out w' hSw
        go_split_ands
        go_simp
        try with_reducible rfl
      try simp only [List.getElem_toArray, List.getElem_cons_zero, List.getElem_cons_succ, Act.put, List.setIfInBounds_toArray, List.set_cons_zero, List.set_cons_succ]
      refine wpAnyH_take (i := 5) (v := ?v11) rfl (by kernel_rfl) (by kernel_rfl) (by kernel_rfl) (fun _ _ _ h => h) (Or.inl ⟨by rfl, ?y11⟩) (by assumption) ?r11
      case y11 =>
        intro w' hSw
        go_split_ands
        go_simp
        try with_reducible rfl
      try simp only [List.getElem_toArray, List.getElem_cons_zero, List.getElem_cons_succ, Act.put, List.setIfInBounds_toArray, List.set_cons_zero, List.set_cons_succ]
      refine wpAnyH_take (i := 6) (v := ?v12) rfl (by kernel_rfl) (by kernel_rfl) (by kernel_rfl) (fun _ _ _ h => h) (Or.inl ⟨by rfl, ?y12⟩) (by assumption) ?r12
      case y12 =>
        intro w' hSw
        go_split_ands
        go_simp
        try with_reducible rfl
      try simp only [List.getElem_toArray, List.getElem_cons_zero, List.getElem_cons_succ, Act.put, List.setIfInBounds_toArray, List.set_cons_zero, List.set_cons_succ]
      refine wpAnyH_take (i := 7) (v := ?v13) rfl (by kernel_rfl) (by kernel_rfl) (by kernel_rfl) (fun _ _ _ h => h) (Or.inl ⟨by rfl, ?y13⟩) (by assumption) ?r13
      case y13 =>
        intro w' hSw
        go_split_ands
        go_simp
        try with_reducible rfl
      try simp only [List.getElem_toArray, List.getElem_cons_zero, List.getElem_cons_succ, Act.put, List.setIfInBounds_toArray, List.set_cons_zero, List.set_cons_succ]
      refine wpAnyH_take (i := 8) (v := ?v14) rfl (by kernel_rfl) (by kernel_rfl) (by kernel_rfl) (fun _ _ _ h => h) (Or.inl ⟨by rfl, ?y14⟩) (by assumption) ?r14
      case y14 =>
        intro w' hSw
        go_split_ands
        go_simp
        try with_reducible rfl
      try simp only [List.getElem_toArray, List.getElem_cons_zero, List.getElem_cons_succ, Act.put, List.setIfInBounds_toArray, List.set_cons_zero, List.set_cons_succ]
      refine wpAnyH_ready (rs := [3]) (by kernel_rfl) (by simp) ?_
      refine AllReadyH.cons (i := 3) rfl (fun K hK => ?_) AllReadyH.nil
      go_simp
      go_at_call 57
      (with_reducible refine Calls.mono (HN8.out _) ?_)
      rintro e w_11 ⟨v_13, rfl, ho, hb⟩
      obtain ⟨a_14, c_15, rfl⟩ := ho.sl.len
      have HB_12 := Lib.hid ((((Below.refl Y.heap.size Z).drew)).trans (hb.mono (Nat.le_trans HB8.out.size (((Below.refl Y.heap.size Z).drew)).size)))
      have K_16 := Lib.hid (HO8.out.drew.below (hb) (Nat.le_refl _))
      have K_17 := Lib.hid ho.sl
      clear hb ho
      refine hK.out _ _ (HB_12.out) (fun hHeld' => ?_)
      clear hHeld hK K
      have hHeld := hHeld'
      clear hHeld'
      try simp only [List.getElem_toArray, List.getElem_cons_zero, List.getElem_cons_succ, Act.put, List.setIfInBounds_toArray, List.set_cons_zero, List.set_cons_succ]
      refine wpAnyH_ready (rs := [4]) (by kernel_rfl) (by simp) ?_
      refine AllReadyH.cons (i := 4) rfl (fun K hK => ?_) AllReadyH.nil
      refine any_of_list (by rfl) (fun Q' hQ' => ?_)
      try simp only [List.getElem_toArray, List.getElem_cons_zero, List.getElem_cons_succ]
      refine wpList_append_b rfl (.tmp 55) (.tmp 58) 22 5 rfl Tryd.underlying22 info_u8 Y.heap.size _ _ K_16.out rfl _ _ K_17.out rfl (by have := HLN.out; have := HCM.out; simp only [List.length_append]; omega) (Nat.le_trans HB8.out.size (HB_12.out).size) ?_
      intro v_20 w_18 ho hg hn'
      have HB_19 := Lib.hid ((HB_12.out).grown hg (Nat.le_trans HB8.out.size (HB_12.out).size) (fun k e => (World.ownsRow.lt K_16.out k e).1))
      have K_21 := Lib.hid ho
      clear ho hg hn'
      refine hQ' _ _ (hK.out _ _ (HB_19.out) (fun hHeld' => ?_))
      clear hHeld hK K hQ' Q'
      have hHeld := hHeld'
      clear hHeld'
      try simp only [List.getElem_toArray, List.getElem_cons_zero, List.getElem_cons_succ, Act.put, List.setIfInBounds_toArray, List.set_cons_zero, List.set_cons_succ]
      refine wpAnyH_ready (rs := [9]) (by kernel_rfl) (by simp) ?_
      refine AllReadyH.cons (i := 9) rfl (fun K hK => ?_) AllReadyH.nil
      refine any_of_list (by rfl) (fun Q' hQ' => ?_)
      try simp only [List.getElem_toArray, List.getElem_cons_zero, List.getElem_cons_succ]
      refine wpList_append_b rfl (.tmp 59) (.tmp 63) 22 5 rfl Tryd.underlying22 info_u8 Y.heap.size _ _ K_21.out rfl _ _ (HFZ.out _ (HB_19.out)) rfl (by have := HLN.out; have := HCM.out; simp only [List.length_append]; omega) (Nat.le_trans HB8.out.size (HB_19.out).size) ?_
      intro v_24 w_22 ho hg hn'
      have HB_23 := Lib.hid ((HB_19.out).grown hg (Nat.le_trans HB8.out.size (HB_19.out).size) (fun k e => (World.ownsRow.lt K_21.out k e).1))
      have K_25 := Lib.hid ho
      clear ho hg hn'
      refine hQ' _ _ (hK.out _ _ (HB_23.out) (fun hHeld' => ?_))
      clear hHeld hK K hQ' Q'
      have hHeld := hHeld'
      clear hHeld'
      try simp only [List.getElem_toArray, List.getElem_cons_zero, List.getElem_cons_succ, Act.put, List.setIfInBounds_toArray, List.set_cons_zero, List.set_cons_succ]
      refine wpAnyH_take (i := 10) (v := ?v15) rfl (by kernel_rfl) (by kernel_rfl) (by kernel_rfl) (fun _ _ _ h => h) (Or.inl ⟨by rfl, ?y15⟩) (by assumption) ?r15
      case y15 =>
        intro w' hSw
        go_split_ands
        go_simp
        try with_reducible rfl
      try simp only [List.getElem_toArray, List.getElem_cons_zero, List.getElem_cons_succ, Act.put, List.setIfInBounds_toArray, List.set_cons_zero, List.set_cons_succ]
      refine wpAnyH_done (by kernel_rfl) ?_ _
      rw [← HTT.out] at K_25
      go_wp2_with fail
      go_meet
      exact ⟨K_25, Lib.hid (HB8.out.trans (HB_23.out))⟩
      -- REG B END
    case rest =>
      obtain ⟨HO9, HB9⟩ := hcut
      obtain ⟨a9, c9, rfl⟩ := HO9.out.sl.len
      go_upto_region 11 with (first
        | (go_at_call 41; (with_reducible refine Calls.mono (HMA.out _ _ _ (HYO.out _ HB9.out) HO9.out.sl (HBY.out.trans (HB9.out.mono HBY.out.size))) ?_); rintro e w10 ⟨rfl, hb⟩; have HB10 := Lib.hid (HB9.out.trans (hb.mono HB9.out.size)); clear hb)
        | (refine wpList_store_row rfl 32 (.tmp 13) (.tmp 67) rfl _ _ rfl rfl _ _ (heap_alloc_new _ _) HIT.out (by rw [bytes_size, HTL.out]; rfl) (bytes_one _) ?_; rw [World.setRow_alloc_new]))
      obtain ⟨V, hV, hBV, hVs, hV0⟩ := alloc1 w10 (.cells (bytes T) 32)
      rw [hV]
      have hz10 := HB10.out.size
      have hyv := HB10.out.trans (hBV.mono hz10)
      have HBV := Lib.hid (HBY.out.trans (hyv.mono HBY.out.size))
      have HVT := Lib.hid (fun W (hW : Below V.heap.size V W) => (show SlB W (.slice (some ⟨w10.heap.size, 0, none⟩) 32 32) T from sl_arr T ((hW.block _ (by omega)).trans hV0) HTL.out.symm (by rw [HTL.out]; omega)))
      have HVL := Lib.hid (fun W (hW : Below V.heap.size V W) => HTY.out W (hyv.trans (hW.mono hyv.size)))
      clear hV hBV hVs hV0 hz10 hyv HO9 HO8 HB8 HB9 HB10
      -- REG C BEGIN
      refine wp_region_held_drew (S := fun W => Below V.heap.size V W) (by kernel_rfl) ((Below.refl V.heap.size V).drew) (fun hHeld => ?_)
      refine wpAnyH_take (i := 0) (v := ?v16) rfl (by kernel_rfl) (by kernel_rfl) (by kernel_rfl) (fun _ _ _ h => h) (Or.inl ⟨by rfl, ?y16⟩) (by assumption) ?r16
      case y16 =>
        intro w' hSw
        go_split_ands
        go_simp
        try with_reducible rfl
      try simp only [List.getElem_toArray, List.getElem_cons_zero, List.getElem_cons_succ, Act.put, List.setIfInBounds_toArray, List.set_cons_zero, List.set_cons_succ]
      refine wpAnyH_take (i := 1) (v := ?v17) rfl (by kernel_rfl) (by kernel_rfl) (by kernel_rfl) (fun _ _ _ h => h) (Or.inl ⟨by rfl, ?y17⟩) (by assumption) ?r17
      case y17 =>
        intro w' hSw
        have kc := conv_any (HVT.out w' hSw)
        rw [HTX.out] at kc
        go_split_ands
        go_simp
        try with_reducible rfl
      try simp only [List.getElem_toArray, List.getElem_cons_zero, List.getElem_cons_succ, Act.put, List.setIfInBounds_toArray, List.set_cons_zero, List.set_cons_succ]
      refine wpAnyH_take (i := 2) (v := ?v18) rfl (by kernel_rfl) (by kernel_rfl) (by kernel_rfl) (fun _ _ _ h => h) (Or.inl ⟨by rfl, ?y18⟩) (by assumption) ?r18
      case y18 =>
        intro w' hSw
        go_split_ands
        go_simp
        try with_reducible rfl
      try simp only [List.getElem_toArray, List.getElem_cons_zero, List.getElem_cons_succ, Act.put, List.setIfInBounds_toArray, List.set_cons_zero, List.set_cons_succ]
      refine wpAnyH_take (i := 3) (v := ?v19) rfl (by kernel_rfl) (by kernel_rfl) (by kernel_rfl) (fun _ _ _ h => h) (Or.inl ⟨by rfl, ?y19⟩) (by assumption) ?r19
      case y19 =>
        intro w' hSw
        go_split_ands
        go_simp
        try with_reducible rfl
      try simp only [List.getElem_toArray, List.getElem_cons_zero, List.getElem_cons_succ, Act.put, List.setIfInBounds_toArray, List.set_cons_zero, List.set_cons_succ]
      refine wpAnyH_take (i := 4) (v := ?v20) rfl (by kernel_rfl) (by kernel_rfl) (by kernel_rfl) (fun _ _ _ h => h) (Or.inl ⟨by rfl, ?y20⟩) (by assumption) ?r20
      case y20 =>
        intro w' hSw
        go_split_ands
        go_simp
        try with_reducible rfl
      try simp only [List.getElem_toArray, List.getElem_cons_zero, List.getElem_cons_succ, Act.put, List.setIfInBounds_toArray, List.set_cons_zero, List.set_cons_succ]
      refine wpAnyH_take (i := 5) (v := ?v21) rfl (by kernel_rfl) (by kernel_rfl) (by kernel_rfl) (fun _ _ _ h => h) (Or.inl ⟨by rfl, ?y21⟩) (by assumption) ?r21
      case y21 =>
        intro w' hSw
        go_split_ands
        go_simp
        try with_reducible rfl
      try simp only [List.getElem_toArray, List.getElem_cons_zero, List.getElem_cons_succ, Act.put, List.setIfInBounds_toArray, List.set_cons_zero, List.set_cons_succ]
      refine wpAnyH_take (i := 6) (v := ?v22) rfl (by kernel_rfl) (by kernel_rfl) (by kernel_rfl) (fun _ _ _ h => h) (Or.inl ⟨by rfl, ?y22⟩) (by assumption) ?r22
      case y22 =>
        intro w' hSw
        have kc := conv_any (HVL.out w' hSw)
        rw [HLX.out] at kc
        go_split_ands
        go_simp
        try with_reducible rfl
      try simp only [List.getElem_toArray, List.getElem_cons_zero, List.getElem_cons_succ, Act.put, List.setIfInBounds_toArray, List.set_cons_zero, List.set_cons_succ]
      refine wpAnyH_take (i := 7) (v := ?v23) rfl (by kernel_rfl) (by kernel_rfl) (by kernel_rfl) (fun _ _ _ h => h) (Or.inl ⟨by rfl, ?y23⟩) (by assumption) ?r23
      case y23 =>
        intro w' hSw
        have ⟨hd1, hd2⟩ := HQE.out
        go_split_ands
        go_simp
        try with_reducible rfl
      try simp only [List.getElem_toArray, List.getElem_cons_zero, List.getElem_cons_succ, Act.put, List.setIfInBounds_toArray, List.set_cons_zero, List.set_cons_succ]
      refine wpAnyH_done (by kernel_rfl) ?_ _
      -- REG C END
      clear hw1 hw2 hw3 hw4 hw5 hw6 hw7
      cases q with
      | false =>
        obtain ⟨rfl, rfl, rfl⟩ := HQ.out rfl
        go_wp2_with (go_at_call 52; (with_reducible refine Calls.mono (HAW.out _ (Below.drew HBV.out)) ?_); rintro e w12 ⟨rfl, hb⟩; have HB12 := Lib.hid ((Below.drew HBV.out).trans (hb.mono HBV.out.size)); clear hb)
        go_ret
        exact ⟨rfl, HB12.out⟩
      | true =>
        rcases HER.out with rfl | rfl
        all_goals
          go_wp2_with (go_at_call 52; (with_reducible refine Calls.mono (HAW.out _ (Below.drew HBV.out)) ?_); rintro e w12 ⟨rfl, hb⟩; have HB12 := Lib.hid ((Below.drew HBV.out).trans (hb.mono HBV.out.size)); clear hb)
          go_ret
          exact ⟨rfl, HB12.out⟩
theorem law_sealTags {w : World} (key : List (BitVec 8)) (hk : key.length = 32) (vc : Value) (ctx : List (BitVec 8)) (hcs : SlB w vc ctx) (pos ep : Nat) (hp : pos < 18446744073709551616) (he : ep < 4294967296) (v2 : Value) (s : List (BitVec 8)) (hs : SlB w v2 s) (hG : Glob w) :
    Calls Tryd.prog 20 #[.agg (bytes key), .agg #[vc, .int .u64 (pos : Int), .int .u32 (ep : Int)], v2] w fun e w' => e = .returned (.bool true) ∧ Below w.heap.size w w' := by
  by_cases h : (3000 < s.length ∨ 200 < ctx.length) ∨ s.length < 100
  · exact tags_short key hk vc ctx hcs pos ep hp he v2 s hs hG h
  · exact tags_long key hk vc ctx hcs pos ep hp he v2 s hs hG (by omega) (by omega) (by omega)
end Go.Proofs.YtnoilogepkelaaaDoor
namespace Go.Proofs.YtnoilogepkelaaaDoor.rowSealTags
open Go.ChangeShapes Go.WideShapes Go.ChangeAt Go.RowKit
open Go.ChangeMaps (open_string)
set_option linter.unusedVariables false
set_option linter.unusedSimpArgs false

theorem own : ownKnob Tryd.prog.godebug = none := by kernel_rfl
theorem laidOut : laidOutB Tryd.prog = true := by kernel_rfl

set_option maxRecDepth 100000 in
theorem lifted (os : Os) (started : os.Started) (H : Type) (enc : TypeId × Value → H) :
    ReturnsInHanded {} Tryd.checked os 20 .any (fun w args => (Rows.sealTagsSpec.pre enc Tryd.prog Tryd.f20 [] false w args ∧ laidMet Tryd.prog Ls w) ∧ sizedMet enc Tryd.prog Tryd.f20 (OpenSpec.ofChange Rows.sealTagsSpec) false w args)
      (Rows.sealTagsSpec.post enc Tryd.prog Tryd.f20 false true false false) := by
  refine returnsInHanded_of_change_and (C := Tryd.checked) (X := fun w _ => laidMet Tryd.prog Ls w) (fun _ _ _ hh h => h.of_heap hh) own started (by kernel_rfl) Tryd.func20
    (ChangeSpec.witness_at (enc := enc) (C := Tryd.checked) (os := os) (X := fun w _ => laidMet Tryd.prog Ls w) false (laidWorld os) #[.agg #[.int .u8 0, .int .u8 0, .int .u8 0, .int .u8 0, .int .u8 0, .int .u8 0, .int .u8 0, .int .u8 0, .int .u8 0, .int .u8 0, .int .u8 0, .int .u8 0, .int .u8 0, .int .u8 0, .int .u8 0, .int .u8 0, .int .u8 0, .int .u8 0, .int .u8 0, .int .u8 0, .int .u8 0, .int .u8 0, .int .u8 0, .int .u8 0, .int .u8 0, .int .u8 0, .int .u8 0, .int .u8 0, .int .u8 0, .int .u8 0, .int .u8 0, .int .u8 0], .agg #[.slice none 0 0, .int .u64 0, .int .u32 0], .slice none 0 0] 8 rfl (by kernel_rfl) (by kernel_rfl) (by kernel_rfl) (by kernel_rfl) (by kernel_rfl) (laid_world os _)) ?_
  intro W base args ds gs before hval0 hW _ _ hL _
  have hval : ∀ (j : Nat) t v, Tryd.f20.params[j]? = some t → args[j]? = some v → Value.okWide Tryd.prog W .any base t v := hval0
  have hW' := hW
  obtain ⟨p, q, hA0, hV, rfl, hfz, hnd⟩ := hW
  have hA : DataW.TrodAll enc Tryd.prog W 0 (fun _ => true) true Tryd.f20.params.toList args.toList ds p := hA0
  rw [Tryd.params20] at hA hval
  obtain ⟨v0, vs0, d0, ds0, p0, q0, hargs, rfl, rfl, h0, r0⟩ := trodAll_cons hA
  obtain ⟨v1, vs1, d1, ds1, p1, q1, rfl, rfl, rfl, h1, r1⟩ := trodAll_cons r0
  obtain ⟨v2, vs2, d2, ds2, p2, q2, rfl, rfl, rfl, h2, r2⟩ := trodAll_cons r1
  obtain ⟨rfl, rfl, rfl⟩ := trodAll_nil r2
  obtain rfl : args = #[v0, v1, v2] := by cases args; simp_all
  obtain ⟨rfl, rfl⟩ := trodVars_none hV
  have k0 := h0
  have lt0 : ∀ x ∈ p0, x.block < W.heap.size := by obtain ⟨m, hm⟩ := k0; exact DataW.trod_lt m _ _ _ hm
  have k1 := h1
  have lt1 : ∀ x ∈ p1, x.block < W.heap.size := by obtain ⟨m, hm⟩ := k1; exact DataW.trod_lt m _ _ _ hm
  have k2 := h2
  have lt2 : ∀ x ∈ p2, x.block < W.heap.size := by obtain ⟨m, hm⟩ := k2; exact DataW.trod_lt m _ _ _ hm
  obtain ⟨x0, l0, rfl⟩ := open_bytes (n := 32) Tryd.underlying32 Tryd.underlying5 (by kernel_rfl) (by kernel_rfl) (hval 0 32 v0 rfl rfl)
  obtain ⟨cs1, rfl⟩ := agg_form Tryd.underlying70 (hval 1 70 v1 rfl rfl)
  obtain ⟨m1, hm1⟩ := h1
  obtain ⟨y1_0, y1_1, y1_2, y1_3, ecs1, y1_4, y1_5, y1_6⟩ := open_place hm1
  obtain rfl : cs1 = (placeC y1_0 y1_2 y1_3).toArray := by rw [← ecs1]; simp [Value.cells]
  obtain ⟨x2, w2⟩ := open_slice8 Tryd.underlying22 Tryd.underlying5 (by kernel_rfl) (hval 2 22 v2 rfl rfl) h2
  clear hA0 hval0
  refine (law_sealTags x0 l0 y1_0 y1_1 y1_4 y1_2 y1_3 y1_5 y1_6 v2 x2 w2 (glob_of_vars (vars_of_laid hL))).mono fun e W' ⟨he, bel⟩ => ?_
  subst he
  exact ⟨_, rfl, _, _, _, [], _, [], hW', trodAll_mk1 (shut_bool Tryd.underlying4 _), (trodAll_cons_mk (Below.trod laidOut (by kernel_rfl) (of_decide_eq_true (by kernel_rfl)) k0 bel lt0) (trodAll_cons_mk (Below.trod laidOut (by kernel_rfl) (of_decide_eq_true (by kernel_rfl)) k1 bel lt1) (trodAll_cons_mk (Below.trod laidOut (by kernel_rfl) (of_decide_eq_true (by kernel_rfl)) k2 bel lt2) trodAll_mk0))), rfl, bel.frame _, fun h => by cases h⟩

theorem proved : Rows.SealTagsSaid :=
  OpenClaim.holds_of_wide 20 Tryd.f20 rfl rfl rfl rfl rfl rfl rfl ⟨rfl, rfl, rfl, rfl, rfl⟩ rfl rfl rfl rfl rfl (by kernel_rfl) Tryd.func20 (by kernel_rfl)
    (of_decide_eq_true (by kernel_rfl)) (by unfold Func.isWrapper; first | (rw [if_pos (by decide +kernel)]; kernel_rfl) | (rw [if_neg (by decide +kernel)]; exact ⟨rfl, rfl⟩))
    (fun os started H enc _ => lifted os started H enc)
end Go.Proofs.YtnoilogepkelaaaDoor.rowSealTags
namespace Go.Proofs.YtnoilogepkelaaaDoor.cardSealTags
open Go
theorem proved : Rows.SealTagsCardSaid :=
  Claim7.holds_tied_plain_at .later [] [.data, .data] true (true, "7a6ec62b16e8eff594300fbad7bbffdd2b98b027ed8fb16ef0f44a85b4f277cd") false
    rowSealTags.proved (fun _ h => by cases h) (by kernel_rfl) (fun _ h => by cases h) sealTags_row_tie rfl ⟨rfl, rfl⟩ (by kernel_rfl) rfl
    (fun f fn hf hfn => by
      obtain rfl : f = 20 := Option.some.inj ((show Tryd.prog.funcNamed "redwax/redwaxlaw11.SealTags" = some 20 by kernel_rfl).symm.trans hf) |>.symm
      obtain rfl : fn = Tryd.f20 := (Option.some.inj (Tryd.func20.symm.trans hfn)).symm
      exact ⟨by kernel_rfl, fun j t ht => by
        rw [Tryd.params20] at ht
        rcases j with _ | _ | _ | j
        · obtain rfl : t = 32 := by simpa using ht.symm
          exact (show Tryd.prog.wantsStandIn 32 = false by kernel_rfl)
        · obtain rfl : t = 70 := by simpa using ht.symm
          exact (show Tryd.prog.wantsStandIn 70 = false by kernel_rfl)
        · obtain rfl : t = 22 := by simpa using ht.symm
          exact (show Tryd.prog.wantsStandIn 22 = false by kernel_rfl)
        · simp at ht⟩)
    (by kernel_rfl)
end Go.Proofs.YtnoilogepkelaaaDoor.cardSealTags
