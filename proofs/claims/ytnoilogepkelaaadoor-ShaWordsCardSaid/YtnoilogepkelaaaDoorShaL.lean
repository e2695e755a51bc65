/-
  The law ShaTurned: its walk.
-/
import Derived.Test.YtnoilogepkelaaaDoorShaJ
import Derived.Test.YtnoilogepkelaaaDoorShaK
import Derived.BigFrame
namespace Go.Proofs.YtnoilogepkelaaaDoor
set_option linter.unusedVariables false
set_option linter.unusedSimpArgs false
open Go Go.RowKit
theorem wpList_load_row_w {P : Program} {ops : Array Oper} {rest : List Oper} {o : Oper} {a : Act} {w : World} {Q : Exit → Act → World → Prop} (hw : Region.wanted o (yielded ops a.tmps) = true) (ty : TypeId) (x : Operand) (ho : o.op = .load ty x)
    (g : Nat) (hx : a.eval x = .pointer (some ⟨g, 0, none⟩)) (t : TypeId) (cs : Array Value) (fr : Nat × Nat) (d : TypeDesc) (hg : w.heap[g]? = some (.cells cs t fr))
    (hu : P.underlying ty = some d) (hd : (match d with | .struct _ | .array _ _ => true | _ => false) = true) (hi : (P.info? ty).map (·.size) = some cs.size)
    (h : wpList P ops Q rest (a.put o.dst (.agg cs)) w) : wpList P ops Q (o :: rest) a w :=
  BigFrame.wpList_want hw fun K hK => wp_load_row ty x ho g hx t cs fr d hg hu hd hi (hK _ _ h)
theorem run_eq_hash {T n : Nat} (hT : Tryd.prog.underlying T = some (.array n 5)) (xs : List (BitVec 8)) (h : xs.length = n) (w : World) : (Op.equalIn 10000 T (.agg (bytes xs)) (.agg (bytes xs))).run Tryd.prog w = .ok true w := by
  have e : bytes xs = ints .u8 (xs.map bv) := by simp [bytes, ints, List.map_map, Function.comp_def]
  rw [e, run_equalIn_ints (P := Tryd.prog) (T := T) (E := 5) (n := n) (k := .u8) hT Tryd.underlying5 (by kernel_rfl) _ _ (by simpa using h) (by simpa using h) w]
  simp
theorem run_eql_hash {T n : Nat} (hT : Tryd.prog.underlying T = some (.array n 5)) (hG : Tryd.prog.eqGuardType Tryd.prog.depth T = false) (xs : List (BitVec 8)) (h : xs.length = n) (w : World) :
    (∀ x y, (eqGuard .eql T x y (.agg (bytes xs)) (.agg (bytes xs))).run Tryd.prog w = .ok () w) ∧ (binOp .eql T (.agg (bytes xs)) (.agg (bytes xs))).run Tryd.prog w = .ok (.bool true) w := by
  refine ⟨fun x y => run_eqGuard_agg w .eql T x y _ _ hG, ?_⟩
  have e : (Op.equal T (.agg (bytes xs)) (.agg (bytes xs))).run Tryd.prog w = .ok true w := run_eq_hash hT xs h w
  show ((do pure (.bool (← Op.equal T (.agg (bytes xs)) (.agg (bytes xs)))) : Sem Value)).run Tryd.prog w = _
  rw [Sem.run_bind, e]
  rfl

set_option maxRecDepth 100000 in
set_option maxHeartbeats 4000000 in
theorem law_shaTurned (h : List (BitVec 8)) (hh : h.length = 32) (xs : List (BitVec 8)) (w : World) (hG : Glob w) :
    Calls Tryd.prog 8 #[.agg (bytes h), .string (strB xs)] w fun e w' => e = .returned (.bool true) ∧ Below w.heap.size w w' := by
  have hss := strB_size xs
  have HAW := Lib.hid (fun W (hB : Below w.heap.size w W) => awake_any W (hG.below hB hG.size))
  have HIH := Lib.hid (fun (xs : List (BitVec 8)) (h : xs.length = 32) => (show (Tryd.prog.info? 32).map (·.size) = some (bytes xs).size by rw [bytes_size, h]; kernel_rfl))
  obtain ⟨X, hX, hBX, hXs, hX0⟩ := alloc1 w (.cells (bytes h) 32)
  have HIB := Lib.hid (HIH.out h hh)
  have HTX := Lib.hid (fun W => text_any h hh W)
  have HOF := Lib.hid (fun W => of_any (Sha.text h) (by rw [Sha.text_length]; omega) W)
  rw [Sha.of_text h hh] at HOF
  have HEQ := Lib.hid (fun W => run_eql_hash (n := 32) Tryd.underlying32 (by kernel_rfl) h hh W)
  obtain ⟨bb, hbb⟩ : ∃ bb, bytes h = bb := ⟨_, rfl⟩
  have HOF' : Hid (∀ W, Calls Tryd.prog 34 #[.string (strB (Sha.text h))] W fun e w' => e = .returned (.tuple #[.agg bb, .bool true]) ∧ Below W.heap.size W w') := by rw [← hbb]; exact HOF
  rw [hbb] at hX hX0 HIB HTX HEQ ⊢
  have HBZ := Lib.hid (show bb.size = 32 by rw [← hbb, bytes_size, hh])
  have HB1C := Lib.hid (show bb.all (·.oneCell') = true by rw [← hbb]; exact bytes_one h)
  have HX0 := Lib.hid hX0
  have HB0 := Lib.hid hBX
  have HX := Lib.hid hX
  have HSX := Lib.hid hXs
  clear hX hX0 hBX hXs hG HOF
  by_cases hlt : 3000 < xs.length
  · generalize strB xs = S at *
    have hlt' : (3000 : Int) < S.size := by omega
    go_enter Tryd.func8, Tryd.ntmps8
    go_upto_region 1 with fail
    rw [HX.out]
    go_wp2_with (go_at_call 23; refine (HAW.out _ HB0.out).mono ?_; rintro e w1 ⟨rfl, hb1⟩; have HB1 := Lib.hid (HB0.out.trans (hb1.mono HB0.out.size)); clear hb1)
    go_ret
    exact ⟨rfl, HB1.out⟩
  · have HOX := Lib.hid (fun W => of_any xs (by omega) W)
    obtain ⟨S, hS⟩ : ∃ S, strB xs = S := ⟨_, rfl⟩
    rw [hS] at hss HOX ⊢
    have HS := Lib.hid hS
    clear hS
    have hlt' : ¬ (3000 : Int) < S.size := by omega
    obtain ⟨T, hT⟩ : ∃ T, strB (Sha.text h) = T := ⟨_, rfl⟩
    rw [hT] at HTX HOF'
    clear hT
    go_enter Tryd.func8, Tryd.ntmps8
    go_upto_region 3 with fail
    rw [HX.out]
    go_upto_region 4 with (first
      | (refine wpList_load_row rfl 32 (.tmp 2) rfl w.heap.size rfl _ _ _ _ HX0.out Tryd.underlying32 rfl HIB.out ?_)
      | (go_at_call 36; refine (HTX.out _).mono ?_; rintro e w1 ⟨rfl, hb1⟩; have HB1 := Lib.hid (hb1); clear hb1)
      | (go_at_call 34; refine (HOF'.out _).mono ?_; rintro e w2 ⟨rfl, hb2⟩; have HB2 := Lib.hid (HB1.out.trans (hb2.mono HB1.out.size)); clear hb2)
      | (refine wpList_store_row rfl 32 (.tmp 5) (.tmp 17) rfl _ _ rfl rfl _ _ (heap_alloc_new _ _) HIB.out (by rw [HBZ.out]; rfl) HB1C.out ?_; rw [World.setRow_alloc_new]))
    obtain ⟨Y, hY, hBY, hYs, hY0⟩ := alloc1 w2 (.cells bb 32)
    rw [hY]
    have hsz2 := HB2.out.size
    have hsx := HSX.out
    have HXY := Lib.hid ((hBY.block w.heap.size (by omega)).trans ((HB2.out.block w.heap.size (by omega)).trans HX0.out))
    have HY0 := Lib.hid hY0
    have HBY := Lib.hid (HB0.out.trans ((HB2.out.trans (hBY.mono hsz2)).mono HB0.out.size))
    have HYS := Lib.hid (show w.heap.size < w2.heap.size ∧ w2.heap.size < Y.heap.size by omega)
    obtain ⟨O, hO⟩ : ∃ O, w2.heap.size = O := ⟨_, rfl⟩
    rw [hO] at HY0 HYS ⊢
    clear hY hBY hYs hY0 hsz2 hsx hO
    obtain ⟨v, ok, hv, hok⟩ : ∃ v ok, (Sha.of xs).getD (List.replicate 32 0) = v ∧ (Sha.of xs).isSome = ok := ⟨_, _, rfl, rfl⟩
    rw [hv, hok] at HOX
    have hvl : v.length = 32 := by
      rw [← hv]
      cases ho : Sha.of xs with
      | none => simp
      | some u => exact (Sha.text_of xs u ho).1
    have HIV := Lib.hid (HIH.out v hvl)
    have HVL := Lib.hid hvl
    go_upto_region 5 with (first
      | (go_at_call 34; refine (HOX.out _).mono ?_; rintro e w3 ⟨rfl, hb3⟩; have HB3 := Lib.hid hb3; clear hb3)
      | (refine wpList_store_row rfl 32 (.tmp 7) (.tmp 22) rfl _ _ rfl rfl _ _ (heap_alloc_new _ _) HIV.out (by rw [bytes_size, HVL.out]; rfl) (bytes_one v) ?_; rw [World.setRow_alloc_new]))
    obtain ⟨Z, hZ, hBZ, hZs, hZ0⟩ := alloc1 w3 (.cells (bytes v) 32)
    rw [hZ]
    have hsz3 := HB3.out.size
    have hys := HYS.out
    have HXZ := Lib.hid ((hBZ.block w.heap.size (by omega)).trans ((HB3.out.block w.heap.size (by omega)).trans HXY.out))
    have HYZ := Lib.hid ((hBZ.block O (by omega)).trans ((HB3.out.block O (by omega)).trans HY0.out))
    have HZ0 := Lib.hid hZ0
    have HBZ2 := Lib.hid (HBY.out.trans ((HB3.out.trans (hBZ.mono hsz3)).mono HBY.out.size))
    obtain ⟨O2, hO2⟩ : ∃ O2, w3.heap.size = O2 := ⟨_, rfl⟩
    rw [hO2] at HZ0 ⊢
    clear hZ hBZ hZs hZ0 hsz3 hys hO2
    have hq1 := fun x y W => (HEQ.out W).1 x y
    have hq2 := fun W => (HEQ.out W).2
    have HTV := Lib.hid (fun W => text_any v hvl W)
    cases ok with
    | true =>
      have htv : strB (Sha.text v) = S := by
        rw [← HS.out]
        cases ho : Sha.of xs with
        | none => rw [ho] at hok; cases hok
        | some u => rw [ho] at hv; rw [← hv]; exact congrArg strB (Sha.text_of xs u ho).2
      rw [htv] at HTV
      clear htv hv hok hvl
      go_wp2_with (first
        | (refine wpList_load_row_w (by rfl) 32 (.tmp 5) rfl O rfl _ _ _ _ HYZ.out Tryd.underlying32 rfl HIB.out ?_)
        | (refine wpList_load_row_w (by rfl) 32 (.tmp 2) rfl w.heap.size rfl _ _ _ _ HXZ.out Tryd.underlying32 rfl HIB.out ?_)
        | (refine wpList_load_row_w (by rfl) 32 (.tmp 7) rfl O2 rfl _ _ _ _ HZ0.out Tryd.underlying32 rfl HIV.out ?_)
        | (go_at_call 36; refine (HTV.out _).mono ?_; rintro e w4 ⟨rfl, hb4⟩; have HB4 := Lib.hid (HBZ2.out.trans (hb4.mono HBZ2.out.size)); clear hb4)
        | (go_at_call 23; refine (HAW.out _ HB4.out).mono ?_; rintro e w5 ⟨rfl, hb5⟩; have HB5 := Lib.hid (HB4.out.trans (hb5.mono HB4.out.size)); clear hb5))
      go_ret
      exact ⟨rfl, HB5.out⟩
    | false =>
      have hvz : v = List.replicate 32 0 := by
        cases ho : Sha.of xs with
        | none => rw [ho] at hv; exact hv.symm
        | some u => rw [ho] at hok; cases hok
      have hne : ¬ strB (Sha.text v) = S := by
        rw [← HS.out]
        intro he
        have h2 := strB_inj he
        have h3 := Sha.of_text v hvl
        rw [h2] at h3
        rw [h3] at hok
        cases hok
      have hz := fun W => run_eql_hash (n := 32) Tryd.underlying32 (by kernel_rfl) v hvl W
      obtain ⟨zb, hzb⟩ : ∃ zb, bytes v = zb := ⟨_, rfl⟩
      have hzl : zb = #[.int .u8 0, .int .u8 0, .int .u8 0, .int .u8 0, .int .u8 0, .int .u8 0, .int .u8 0, .int .u8 0, .int .u8 0, .int .u8 0, .int .u8 0, .int .u8 0, .int .u8 0, .int .u8 0, .int .u8 0, .int .u8 0, .int .u8 0, .int .u8 0, .int .u8 0, .int .u8 0, .int .u8 0, .int .u8 0, .int .u8 0, .int .u8 0, .int .u8 0, .int .u8 0, .int .u8 0, .int .u8 0, .int .u8 0, .int .u8 0, .int .u8 0, .int .u8 0] := by rw [← hzb, hvz]; rfl
      have hqz1 : ∀ x y W, (eqGuard .eql 32 x y (.agg zb) (.agg #[.int .u8 0, .int .u8 0, .int .u8 0, .int .u8 0, .int .u8 0, .int .u8 0, .int .u8 0, .int .u8 0, .int .u8 0, .int .u8 0, .int .u8 0, .int .u8 0, .int .u8 0, .int .u8 0, .int .u8 0, .int .u8 0, .int .u8 0, .int .u8 0, .int .u8 0, .int .u8 0, .int .u8 0, .int .u8 0, .int .u8 0, .int .u8 0, .int .u8 0, .int .u8 0, .int .u8 0, .int .u8 0, .int .u8 0, .int .u8 0, .int .u8 0, .int .u8 0])).run Tryd.prog W = .ok () W := fun x y W => by rw [← hzl, ← hzb]; exact (hz W).1 x y
      have hqz2 : ∀ W, (binOp .eql 32 (.agg zb) (.agg #[.int .u8 0, .int .u8 0, .int .u8 0, .int .u8 0, .int .u8 0, .int .u8 0, .int .u8 0, .int .u8 0, .int .u8 0, .int .u8 0, .int .u8 0, .int .u8 0, .int .u8 0, .int .u8 0, .int .u8 0, .int .u8 0, .int .u8 0, .int .u8 0, .int .u8 0, .int .u8 0, .int .u8 0, .int .u8 0, .int .u8 0, .int .u8 0, .int .u8 0, .int .u8 0, .int .u8 0, .int .u8 0, .int .u8 0, .int .u8 0, .int .u8 0, .int .u8 0])).run Tryd.prog W = .ok (.bool true) W := fun W => by rw [← hzl, ← hzb]; exact (hz W).2
      rw [hzb] at HZ0 HIV HTV
      generalize strB (Sha.text v) = T2 at HTV hne
      have hd1 : decide (T2 = S) = false := decide_eq_false hne
      have hne2 : ¬ T2.toList = S.toList := fun he => hne (by
        rw [ByteArray.toList_eq, ByteArray.toList_eq] at he
        exact ByteArray.ext (Array.toList_inj.1 he))
      have hd2 : (T2.toList == S.toList) = false := by simp [hne2]
      clear hz hzl hzb hvz hv hok hvl hne
      go_wp2_with (first
        | (refine wpList_load_row_w (by rfl) 32 (.tmp 5) rfl O rfl _ _ _ _ HYZ.out Tryd.underlying32 rfl HIB.out ?_)
        | (refine wpList_load_row_w (by rfl) 32 (.tmp 2) rfl w.heap.size rfl _ _ _ _ HXZ.out Tryd.underlying32 rfl HIB.out ?_)
        | (refine wpList_load_row_w (by rfl) 32 (.tmp 7) rfl O2 rfl _ _ _ _ HZ1 Tryd.underlying32 rfl HIV.out ?_)
        | (go_at_call 36; refine (HTV.out _).mono ?_; rintro e w4 ⟨rfl, hb4⟩; have HB4 := Lib.hid (HBZ2.out.trans (hb4.mono HBZ2.out.size)); have HZ1 := (hb4.block O2 (Array.getElem?_eq_some_iff.1 HZ0.out).1).trans HZ0.out; clear hb4)
        | (refine wpList_load_row_w (by rfl) 32 (.tmp 7) rfl O2 rfl _ _ _ _ HZ0.out Tryd.underlying32 rfl HIV.out ?_)
        | (go_at_call 23; refine (HAW.out _ HB4.out).mono ?_; rintro e w5 ⟨rfl, hb5⟩; have HB5 := Lib.hid (HB4.out.trans (hb5.mono HB4.out.size)); clear hb5))
      go_ret
      exact ⟨rfl, HB5.out⟩
end Go.Proofs.YtnoilogepkelaaaDoor
