/-
  The law ChachaBlocks's walk: quarter rounds and blocks are the document's.
-/
import Derived.Test.YtnoilogepkelaaaChaQL
import Derived.Test.YtnoilogepkelaaaRcK
import Derived.Deep.MidRow
import Derived.Laws.StructEq
namespace Go.Proofs.Ytnoilogepkelaaa
set_option linter.unusedVariables false
set_option linter.unusedSimpArgs false
open Go Go.RowKit

theorem rangeAt_of_row (w : World) (b : Nat) (l : List Value) (t : TypeId) (fr : Nat × Nat) (h : w.heap[b]? = some (.cells l.toArray t fr)) : w.rangeAt b 0 l := by
  intro j v hj
  rw [Nat.zero_add, cell_of_row w b j _ _ _ h]
  simpa using hj

theorem run_eq_bytes {T n : Nat} (hT : Try.prog.underlying T = some (.array n 5)) (xs : List (BitVec 8)) (h : xs.length = n) (w : World) : (Op.equalIn 10000 T (.agg (bytes xs)) (.agg (bytes xs))).run Try.prog w = .ok true w := by
  have e : bytes xs = ints .u8 (xs.map bv) := by simp [bytes, ints, List.map_map, Function.comp_def]
  rw [e, run_equalIn_ints (P := Try.prog) (T := T) (E := 5) (n := n) (k := .u8) hT Try.underlying5 (by kernel_rfl) _ _ (by simpa using h) (by simpa using h) w]
  simp

theorem run_eql_bytes {T n : Nat} (hT : Try.prog.underlying T = some (.array n 5)) (hG : Try.prog.eqGuardType Try.prog.depth T = false) (xs : List (BitVec 8)) (h : xs.length = n) (w : World) :
    (∀ x y, (eqGuard .eql T x y (.agg (bytes xs)) (.agg (bytes xs))).run Try.prog w = .ok () w) ∧ (binOp .eql T (.agg (bytes xs)) (.agg (bytes xs))).run Try.prog w = .ok (.bool true) w := by
  refine ⟨fun x y => run_eqGuard_agg w .eql T x y _ _ hG, ?_⟩
  have e : (Op.equal T (.agg (bytes xs)) (.agg (bytes xs))).run Try.prog w = .ok true w := run_eq_bytes hT xs h w
  show ((do pure (.bool (← Op.equal T (.agg (bytes xs)) (.agg (bytes xs)))) : Sem Value)).run Try.prog w = _
  rw [Sem.run_bind, e]
  rfl

set_option maxHeartbeats 1000000 in
theorem law_chachaBlocks (x : List (BitVec 32)) (l : x.length = 4) (key : List (BitVec 8)) (hk : key.length = 32) (nonce : List (BitVec 8)) (hn : nonce.length = 12) (w : World) :
    Calls Try.prog 4 #[.agg (words x), .agg (bytes key), .agg (bytes nonce)] w fun e w' => e = .returned (.bool true) ∧ Below w.heap.size w w' := by
  match x, l with
  | [a, b, c, d], _ =>
  rw [show words [a, b, c, d] = #[.int .u32 (wv a), .int .u32 (wv b), .int .u32 (wv c), .int .u32 (wv d)] from rfl]
  have C8 := Lib.hid (quarter_agg a b c d)
  have C11 := Lib.hid (rquarter_any ⟨a, b, c, d⟩)
  generalize Cha.quarter ⟨a, b, c, d⟩ = Q at C8 C11
  obtain ⟨qa, qb, qc, qd⟩ := Q
  have e4 := run_eq4 qa qb qc qd
  have C12 := Lib.hid (fun w => block_any key nonce a w hk hn)
  have C13 := Lib.hid (fun w => rblock_any key nonce a w hk hn)
  obtain ⟨g64, e64⟩ := forall_and.1 (run_eql_bytes (T := 34) Try.underlying34 (by kernel_rfl) (Cha.block key a nonce) (Cha.block_length key a nonce))
  generalize Value.agg (bytes (Cha.block key a nonce)) = B at C12 C13 e64 g64
  have HIK := show (Try.prog.info? 29).map (·.size) = some (bytes key).toList.length by rw [Array.length_toList, bytes_size, hk]; kernel_rfl
  have HIN := show (Try.prog.info? 31).map (·.size) = some (bytes nonce).toList.length by rw [Array.length_toList, bytes_size, hn]; kernel_rfl
  obtain ⟨kl, hkl⟩ : ∃ kl, (bytes key).toList = kl := ⟨_, rfl⟩
  obtain ⟨nl, hnl⟩ : ∃ nl, (bytes nonce).toList = nl := ⟨_, rfl⟩
  rw [hkl] at HIK
  rw [hnl] at HIN
  have ek : bytes key = kl.toArray := by rw [← hkl]
  have en : bytes nonce = nl.toArray := by rw [← hnl]
  rw [ek, en] at C12 C13 ⊢
  clear hkl hnl ek en hk hn
  go_enter Try.func4, Try.ntmps4
  go_upto_region 1 with fail
  obtain ⟨W, hW, hBW, hWs, hWw, hWk, hWn⟩ := alloc3 w (Obj.cells #[.int .u32 (wv a), .int .u32 (wv b), .int .u32 (wv c), .int .u32 (wv d)] 23) (Obj.cells kl.toArray 29) (Obj.cells nl.toArray 31)
  rw [hW]
  have c0 : W.cell? ⟨w.heap.size, 0, none⟩ = some (.int .u32 (wv a)) := cell_of_row W _ 0 _ _ _ hWw
  have c1 : W.cell? ⟨w.heap.size, 1, none⟩ = some (.int .u32 (wv b)) := cell_of_row W _ 1 _ _ _ hWw
  have c2 : W.cell? ⟨w.heap.size, 2, none⟩ = some (.int .u32 (wv c)) := cell_of_row W _ 2 _ _ _ hWw
  have c3 : W.cell? ⟨w.heap.size, 3, none⟩ = some (.int .u32 (wv d)) := cell_of_row W _ 3 _ _ _ hWw
  have HK := Lib.hid (fun (w' : World) (h : Below W.heap.size W w') =>
    (show w'.rangeAt (w.heap.size + 1) 0 kl ∧ w'.rangeAt (w.heap.size + 1 + 1) 0 nl ∧ w'.cell? ⟨w.heap.size, 0, none⟩ = some (.int .u32 (wv a)) ∧ w'.cell? ⟨w.heap.size, 1, none⟩ = some (.int .u32 (wv b)) ∧
        w'.cell? ⟨w.heap.size, 2, none⟩ = some (.int .u32 (wv c)) ∧ w'.cell? ⟨w.heap.size, 3, none⟩ = some (.int .u32 (wv d)) ∧ Below W.heap.size W w' from
      ⟨rangeAt_of_row _ _ _ _ _ ((h.block _ (by omega)).trans hWk), rangeAt_of_row _ _ _ _ _ ((h.block _ (by omega)).trans hWn), (h.cell (p := ⟨_, 0, none⟩) (by show w.heap.size < _; omega)).trans c0, (h.cell (p := ⟨_, 1, none⟩) (by show w.heap.size < _; omega)).trans c1,
        (h.cell (p := ⟨_, 2, none⟩) (by show w.heap.size < _; omega)).trans c2, (h.cell (p := ⟨_, 3, none⟩) (by show w.heap.size < _; omega)).trans c3, h⟩))
  clear hW hWw hWk hWn
  have HBW := Lib.hid hBW
  have HWS := Lib.hid hWs
  clear hBW hWs
  have uk := Try.underlying29
  have un := Try.underlying31
  go_upto_region 2 with (go_at_call 11; refine (C11.out _).mono ?_; rintro e w2 ⟨rfl, rfl⟩)
  refine wp_region_held_drew (S := (fun w' => w'.rangeAt (w.heap.size + 1) 0 kl ∧ w'.rangeAt (w.heap.size + 1 + 1) 0 nl ∧ w'.cell? ⟨w.heap.size, 0, none⟩ = some (.int .u32 (wv a)) ∧ w'.cell? ⟨w.heap.size, 1, none⟩ = some (.int .u32 (wv b)) ∧
        w'.cell? ⟨w.heap.size, 2, none⟩ = some (.int .u32 (wv c)) ∧ w'.cell? ⟨w.heap.size, 3, none⟩ = some (.int .u32 (wv d)) ∧ Below W.heap.size W w')) (by kernel_rfl) (HK.out _ (Below.refl _ _).drew) (fun hHeld => ?_)
  refine wpAnyH_take (i := 0) (v := ?v1) rfl (by kernel_rfl) (by kernel_rfl) (by kernel_rfl) (fun _ _ _ h => h) (Or.inl ⟨by rfl, ?y1⟩) (by assumption) ?r1
  case y1 =>
    intro w' hSw
    go_split_ands
    go_simp
    try with_reducible rfl
  try simp only [List.getElem_toArray, List.getElem_cons_zero, List.getElem_cons_succ, Act.put, List.setIfInBounds_toArray, List.set_cons_zero, List.set_cons_succ]
  refine wpAnyH_take (i := 2) (v := ?v2) rfl (by kernel_rfl) (by kernel_rfl) (by kernel_rfl) (fun _ _ _ h => h) (Or.inl ⟨by rfl, ?y2⟩) (by assumption) ?r2
  case y2 =>
    intro w' hSw
    go_split_ands
    go_simp
    try with_reducible rfl
  try simp only [List.getElem_toArray, List.getElem_cons_zero, List.getElem_cons_succ, Act.put, List.setIfInBounds_toArray, List.set_cons_zero, List.set_cons_succ]
  refine wpAnyH_take (i := 3) (v := ?v3) rfl (by kernel_rfl) (by kernel_rfl) (by kernel_rfl) (fun _ _ _ h => h) (Or.inl ⟨by rfl, ?y3⟩) (by assumption) ?r3
  case y3 =>
    intro w' hSw
    go_split_ands
    go_simp
    try with_reducible rfl
  try simp only [List.getElem_toArray, List.getElem_cons_zero, List.getElem_cons_succ, Act.put, List.setIfInBounds_toArray, List.set_cons_zero, List.set_cons_succ]
  refine wpAnyH_take (i := 4) (v := ?v4) rfl (by kernel_rfl) (by kernel_rfl) (by kernel_rfl) (fun _ _ _ h => h) (Or.inl ⟨by rfl, ?y4⟩) (by assumption) ?r4
  case y4 =>
    intro w' hSw
    go_split_ands
    go_simp
    try with_reducible rfl
  try simp only [List.getElem_toArray, List.getElem_cons_zero, List.getElem_cons_succ, Act.put, List.setIfInBounds_toArray, List.set_cons_zero, List.set_cons_succ]
  refine wpAnyH_take (i := 5) (v := ?v5) rfl (by kernel_rfl) (by kernel_rfl) (by kernel_rfl) (fun _ _ _ h => h) (Or.inl ⟨by rfl, ?y5⟩) (by assumption) ?r5
  case y5 =>
    intro w' hSw
    go_split_ands
    go_simp
    try with_reducible rfl
  try simp only [List.getElem_toArray, List.getElem_cons_zero, List.getElem_cons_succ, Act.put, List.setIfInBounds_toArray, List.set_cons_zero, List.set_cons_succ]
  refine wpAnyH_take (i := 6) (v := ?v6) rfl (by kernel_rfl) (by kernel_rfl) (by kernel_rfl) (fun _ _ _ h => h) (Or.inl ⟨by rfl, ?y6⟩) (by assumption) ?r6
  case y6 =>
    intro w' hSw
    go_split_ands
    go_simp
    try with_reducible rfl
  try simp only [List.getElem_toArray, List.getElem_cons_zero, List.getElem_cons_succ, Act.put, List.setIfInBounds_toArray, List.set_cons_zero, List.set_cons_succ]
  refine wpAnyH_ready (rs := [1]) (by kernel_rfl) (by simp) ?_
  refine AllReadyH.cons (i := 1) rfl (fun K hK => ?_) ?_
  · go_simp
    go_at_call 8
    refine (C8.out _).mono ?_
    rintro e w2 ⟨rfl, hb2⟩
    obtain hB := hHeld.2.2.2.2.2.2
    have hB2 : Below W.heap.size W w2 := hB.trans (hb2.mono hB.size)
    clear hB hb2
    go_wp2_with fail
    refine hK.out _ _ (HK.out _ hB2) (fun hHeld' => ?_)
    clear hHeld hB2 hK K
    have hHeld := hHeld'
    clear hHeld'
    try simp only [List.getElem_toArray, List.getElem_cons_zero, List.getElem_cons_succ, Act.put, List.setIfInBounds_toArray, List.set_cons_zero, List.set_cons_succ]
    refine wpAnyH_take (i := 7) (v := ?v7) rfl (by kernel_rfl) (by kernel_rfl) (by kernel_rfl) (fun _ _ _ h => h) (Or.inl ⟨by rfl, ?y7⟩) (by assumption) ?r7
    case y7 =>
      intro w' hSw
      go_split_ands
      go_simp
      try with_reducible rfl
    try simp only [List.getElem_toArray, List.getElem_cons_zero, List.getElem_cons_succ, Act.put, List.setIfInBounds_toArray, List.set_cons_zero, List.set_cons_succ]
    refine wpAnyH_take (i := 8) (v := ?v8) rfl (by kernel_rfl) (by kernel_rfl) (by kernel_rfl) (fun _ _ _ h => h) (Or.inl ⟨by rfl, ?y8⟩) (by assumption) ?r8
    case y8 =>
      intro w' hSw
      go_split_ands
      go_simp
      try with_reducible rfl
    try simp only [List.getElem_toArray, List.getElem_cons_zero, List.getElem_cons_succ, Act.put, List.setIfInBounds_toArray, List.set_cons_zero, List.set_cons_succ]
    refine wpAnyH_take (i := 9) rfl (by kernel_rfl) (by kernel_rfl) (by kernel_rfl) (fun _ _ _ h => h) (yieldsIf_load_mid (by rfl) 29 (.tmp 4) rfl _ _ rfl kl _ (fun _ h => h.1) uk rfl HIK) (by assumption) ?_
    try simp only [List.getElem_toArray, List.getElem_cons_zero, List.getElem_cons_succ, Act.put, List.setIfInBounds_toArray, List.set_cons_zero, List.set_cons_succ]
    refine wpAnyH_take (i := 10) (v := ?v9) rfl (by kernel_rfl) (by kernel_rfl) (by kernel_rfl) (fun _ _ _ h => h) (Or.inl ⟨by rfl, ?y9⟩) (by assumption) ?r9
    case y9 =>
      intro w' hSw
      go_split_ands
      go_simp
      try with_reducible rfl
    try simp only [List.getElem_toArray, List.getElem_cons_zero, List.getElem_cons_succ, Act.put, List.setIfInBounds_toArray, List.set_cons_zero, List.set_cons_succ]
    refine wpAnyH_take (i := 11) (v := ?v10) rfl (by kernel_rfl) (by kernel_rfl) (by kernel_rfl) (fun _ _ _ h => h) (Or.inl ⟨by rfl, ?y10⟩) (by assumption) ?r10
    case y10 =>
      intro w' hSw
      go_split_ands
      go_simp
      try with_reducible rfl
    try simp only [List.getElem_toArray, List.getElem_cons_zero, List.getElem_cons_succ, Act.put, List.setIfInBounds_toArray, List.set_cons_zero, List.set_cons_succ]
    refine wpAnyH_take (i := 12) rfl (by kernel_rfl) (by kernel_rfl) (by kernel_rfl) (fun _ _ _ h => h) (yieldsIf_load_mid (by rfl) 31 (.tmp 5) rfl _ _ rfl nl _ (fun _ h => h.2.1) un rfl HIN) (by assumption) ?_
    try simp only [List.getElem_toArray, List.getElem_cons_zero, List.getElem_cons_succ, Act.put, List.setIfInBounds_toArray, List.set_cons_zero, List.set_cons_succ]
    refine wpAnyH_take (i := 14) rfl (by kernel_rfl) (by kernel_rfl) (by kernel_rfl) (fun _ _ _ h => h) (yieldsIf_load_mid (by rfl) 29 (.tmp 4) rfl _ _ rfl kl _ (fun _ h => h.1) uk rfl HIK) (by assumption) ?_
    try simp only [List.getElem_toArray, List.getElem_cons_zero, List.getElem_cons_succ, Act.put, List.setIfInBounds_toArray, List.set_cons_zero, List.set_cons_succ]
    refine wpAnyH_take (i := 15) (v := ?v11) rfl (by kernel_rfl) (by kernel_rfl) (by kernel_rfl) (fun _ _ _ h => h) (Or.inl ⟨by rfl, ?y11⟩) (by assumption) ?r11
    case y11 =>
      intro w' hSw
      go_split_ands
      go_simp
      try with_reducible rfl
    try simp only [List.getElem_toArray, List.getElem_cons_zero, List.getElem_cons_succ, Act.put, List.setIfInBounds_toArray, List.set_cons_zero, List.set_cons_succ]
    refine wpAnyH_take (i := 16) (v := ?v12) rfl (by kernel_rfl) (by kernel_rfl) (by kernel_rfl) (fun _ _ _ h => h) (Or.inl ⟨by rfl, ?y12⟩) (by assumption) ?r12
    case y12 =>
      intro w' hSw
      go_split_ands
      go_simp
      try with_reducible rfl
    try simp only [List.getElem_toArray, List.getElem_cons_zero, List.getElem_cons_succ, Act.put, List.setIfInBounds_toArray, List.set_cons_zero, List.set_cons_succ]
    refine wpAnyH_take (i := 17) rfl (by kernel_rfl) (by kernel_rfl) (by kernel_rfl) (fun _ _ _ h => h) (yieldsIf_load_mid (by rfl) 31 (.tmp 5) rfl _ _ rfl nl _ (fun _ h => h.2.1) un rfl HIN) (by assumption) ?_
    try simp only [List.getElem_toArray, List.getElem_cons_zero, List.getElem_cons_succ, Act.put, List.setIfInBounds_toArray, List.set_cons_zero, List.set_cons_succ]
    refine wpAnyH_ready (rs := [13]) (by kernel_rfl) (by simp) ?_
    refine AllReadyH.cons (i := 13) rfl (fun K hK => ?_) ?_
    · go_simp
      go_at_call 12
      refine (C12.out _).mono ?_
      rintro e w2 ⟨rfl, hb2⟩
      obtain hB := hHeld.2.2.2.2.2.2
      have hB2 : Below W.heap.size W w2 := hB.trans (hb2.mono hB.size)
      clear hB hb2
      go_wp2_with fail
      refine hK.out _ _ (HK.out _ hB2) (fun hHeld' => ?_)
      clear hHeld hB2 hK K
      have hHeld := hHeld'
      clear hHeld'
      try simp only [List.getElem_toArray, List.getElem_cons_zero, List.getElem_cons_succ, Act.put, List.setIfInBounds_toArray, List.set_cons_zero, List.set_cons_succ]
      refine wpAnyH_ready (rs := [18]) (by kernel_rfl) (by simp) ?_
      refine AllReadyH.cons (i := 18) rfl (fun K hK => ?_) ?_
      · go_simp
        go_at_call 13
        refine (C13.out _).mono ?_
        rintro e w2 ⟨rfl, hb2⟩
        obtain hB := hHeld.2.2.2.2.2.2
        have hB2 : Below W.heap.size W w2 := hB.trans (hb2.mono hB.size)
        clear hB hb2
        go_wp2_with fail
        refine hK.out _ _ (HK.out _ hB2) (fun hHeld' => ?_)
        clear hHeld hB2 hK K
        have hHeld := hHeld'
        clear hHeld'
        try simp only [List.getElem_toArray, List.getElem_cons_zero, List.getElem_cons_succ, Act.put, List.setIfInBounds_toArray, List.set_cons_zero, List.set_cons_succ]
        refine wpAnyH_take (i := 19) (oi := { dst := some 44, op := .binOp .eql 34 (.tmp 38) (.tmp 43) 34, type := 4, pos := "law.go:16", after := #[{ on := 13, ground := .data }, { on := 18, ground := .data }, { on := 8, ground := .guard }], guard := some (8, true) }) (v := .bool true) rfl (by kernel_rfl) (by kernel_rfl) (by kernel_rfl) (fun _ _ _ h => h) (Or.inl ⟨by rfl, fun w' _ => ?y19⟩) (by assumption) ?r19
        case y19 =>
          refine Eq.trans (b := ((do let u ← (do eqGuard .eql 34 (.tmp 38) (.tmp 43) B B; binOp .eql 34 B B); pure (.value u)) : Sem Next).run Try.prog w') rfl ?_
          rw [Sem.run_bind, Sem.run_bind, g64, Result.andThen_ok, e64]
          rfl
        try simp only [List.getElem_toArray, List.getElem_cons_zero, List.getElem_cons_succ, Act.put, List.setIfInBounds_toArray, List.set_cons_zero, List.set_cons_succ]
        refine wpAnyH_take (i := 20) (v := ?v13) rfl (by kernel_rfl) (by kernel_rfl) (by kernel_rfl) (fun _ _ _ h => h) (Or.inl ⟨by rfl, ?y13⟩) (by assumption) ?r13
        case y13 =>
          intro w' hSw
          go_split_ands
          go_simp
          try with_reducible rfl
        try simp only [List.getElem_toArray, List.getElem_cons_zero, List.getElem_cons_succ, Act.put, List.setIfInBounds_toArray, List.set_cons_zero, List.set_cons_succ]
        refine wpAnyH_take (i := 21) (v := ?v14) rfl (by kernel_rfl) (by kernel_rfl) (by kernel_rfl) (fun _ _ _ h => h) (Or.inl ⟨by rfl, ?y14⟩) (by assumption) ?r14
        case y14 =>
          intro w' hSw
          go_split_ands
          go_simp
          try with_reducible rfl
        try simp only [List.getElem_toArray, List.getElem_cons_zero, List.getElem_cons_succ, Act.put, List.setIfInBounds_toArray, List.set_cons_zero, List.set_cons_succ]
        refine wpAnyH_ready (rs := [22]) (by kernel_rfl) (by simp) ?_
        refine AllReadyH.cons (i := 22) rfl (fun K hK => ?_) ?_
        · go_simp
          go_at_call 10
          refine (awake_any _).mono ?_
          rintro e w2 ⟨rfl, hb2⟩
          obtain hB := hHeld.2.2.2.2.2.2
          have hB2 : Below W.heap.size W w2 := hB.trans (hb2.mono hB.size)
          clear hB hb2
          go_wp2_with fail
          refine hK.out _ _ (HK.out _ hB2) (fun hHeld' => ?_)
          clear hHeld hB2 hK K
          have hHeld := hHeld'
          clear hHeld'
          try simp only [List.getElem_toArray, List.getElem_cons_zero, List.getElem_cons_succ, Act.put, List.setIfInBounds_toArray, List.set_cons_zero, List.set_cons_succ]
          refine wpAnyH_take (i := 23) (v := ?v15) rfl (by kernel_rfl) (by kernel_rfl) (by kernel_rfl) (fun _ _ _ h => h) (Or.inl ⟨by rfl, ?y15⟩) (by assumption) ?r15
          case y15 =>
            intro w' hSw
            go_split_ands
            go_simp
            try with_reducible rfl
          try simp only [List.getElem_toArray, List.getElem_cons_zero, List.getElem_cons_succ, Act.put, List.setIfInBounds_toArray, List.set_cons_zero, List.set_cons_succ]
          refine wpAnyH_take (i := 24) (v := ?v16) rfl (by kernel_rfl) (by kernel_rfl) (by kernel_rfl) (fun _ _ _ h => h) (Or.inl ⟨by rfl, ?y16⟩) (by assumption) ?r16
          case y16 =>
            intro w' hSw
            go_split_ands
            go_simp
            try with_reducible rfl
          try simp only [List.getElem_toArray, List.getElem_cons_zero, List.getElem_cons_succ, Act.put, List.setIfInBounds_toArray, List.set_cons_zero, List.set_cons_succ]
          refine wpAnyH_done (by kernel_rfl) ?_ _
          have hB := hHeld.2.2.2.2.2.2
          go_wp2_with fail
          go_ret
          exact ⟨rfl, HBW.out.trans (hB.mono (by have := HWS.out; omega))⟩
        · exact AllReadyH.nil
      · exact AllReadyH.nil
    · exact AllReadyH.nil
  · exact AllReadyH.nil
end Go.Proofs.Ytnoilogepkelaaa
