/-
  slices.Chunk at slices of bytes, in blocks of 64: its call, and the contract of what it hands back.
-/
import Derived.Test.YtnoilogepkelaaaDoorChk
namespace Go.Proofs.YtnoilogepkelaaaDoor
set_option linter.unusedVariables false
set_option linter.unusedSimpArgs false
open Go Go.RowKit Go.Shelf
attribute [local go_sem] Oper.semAt_some

set_option maxRecDepth 100000 in
set_option maxHeartbeats 1000000 in
theorem chunk1_nil (F : Fence) (n : Nat) (hF : F.fn 97) (hro : F.round = none) (l Bs Bn : Nat) (J : List (Blk 0) → World → Prop)
    (W : World) (hBs : W.cell? ⟨Bs, 0, none⟩ = some (.slice none 0 0)) (h0 : J [] W) :
    CallsIn F n Tryd.prog 97 #[.func (.yield l) #[] #[], .pointer (some ⟨Bs, 0, none⟩), .pointer (some ⟨Bn, 0, none⟩)] W fun e W' => (∃ v, e = .returned v) ∧ J [] W' := by
  refine callsIn_of_wp Tryd.func97 rfl hF ?_ hro
  simp only [Tryd.ntmps97, List.size_toArray, List.length_cons, List.length_nil, Nat.reduceAdd, Nat.reduceSub, Array.replicate_succ, Array.replicate_zero, List.push_toArray, List.append_toArray, List.nil_append, List.cons_append]
  gi_wp2
  gi_loopw [4] (fun i wr => i = .int .i64 0 ∧ Hid (J [] wr) ∧ wr.cell? ⟨Bs, 0, none⟩ = some (.slice none 0 0)) (fun _ _ => 0)
  case atStart => exact ⟨rfl, Lib.hid h0, hBs⟩
  case round =>
    clear hBs h0
    obtain ⟨rfl, HJ, hBs⟩ := hrel
    gi_wp2
    go_end0
    exact ⟨⟨_, rfl⟩, HJ.out⟩

/-- slices.Chunk(s, 64): s and 64 are boxed; the function value captures the boxes. -/
theorem chunk_any (a : Option Addr) (len cap : Nat) (w : World) : Calls Tryd.prog 89 #[.slice a len cap, .int .i64 64] w fun e w' =>
    e = .returned (.func (.func 97) #[] #[.pointer (some ⟨w.heap.size, 0, none⟩), .pointer (some ⟨w.heap.size + 1, 0, none⟩)]) ∧
    Below w.heap.size w w' ∧ w'.heap.size = w.heap.size + 2 ∧ w'.cell? ⟨w.heap.size, 0, none⟩ = some (.slice a len cap) ∧ w'.cell? ⟨w.heap.size + 1, 0, none⟩ = some (.int .i64 64) := by
  obtain ⟨W, hW, h1, h2, h3, h4⟩ := alloc2 w (.cells #[.slice a len cap] 22) (.cells #[.int .i64 64] 3)
  have HX := Lib.hid (And.intro hW (And.intro h1 (And.intro h2 (And.intro h3 h4))))
  clear hW h1 h2 h3 h4
  go_enter Tryd.func89, Tryd.ntmps89
  go_wp2
  go_ret
  obtain ⟨hW, h1, h2, h3, h4⟩ := HX.out
  rw [hW]
  exact ⟨rfl, h1, h2, cell_of_row _ _ _ _ _ _ h3, cell_of_row _ _ _ _ _ _ h4⟩

/-- A slice's value: of some block, or nil. -/
def SlForm (sv : Value) (b off len : Nat) : Prop := (sv = .slice none 0 0 ∧ len = 0) ∨ ∃ cap, sv = .slice (some ⟨b, off, none⟩) len cap ∧ len ≤ cap ∧ len ≤ 1000000000

theorem chunk_stops (F : Fence) (n : Nat) (hF : F.fn 97) (hro : F.round = none) (hn : 1 ≤ n) (Bs Bn b off len : Nat) (sv : Value) (hs : SlForm sv b off len) (w : World) (h1 : Bs < w.heap.size) (h2 : Bn < w.heap.size)
    (hBs : w.cell? ⟨Bs, 0, none⟩ = some sv) (hBn : w.cell? ⟨Bn, 0, none⟩ = some (.int .i64 64)) :
    SeqStopsK F n Tryd.prog 97 #[.pointer (some ⟨Bs, 0, none⟩), .pointer (some ⟨Bn, 0, none⟩)] (fun x : Blk len => #[chunkV b off len x.1]) (KeepsTwo Bs Bn)
      (fun ys => ys.map (·.1) = List.range ((len + 63) / 64)) (fun _ => True) len w := fun l J Jx W hW hJ _ hY h0 => by
  have c1 := (hW.cell (p := ⟨Bs, 0, none⟩) h1).trans hBs
  have c2 := (hW.cell (p := ⟨Bn, 0, none⟩) h2).trans hBn
  rcases hs with ⟨rfl, rfl⟩ | ⟨cap, rfl, hlc, hcap⟩
  · exact (chunk1_nil F n hF hro l Bs Bn J W c1 h0).mono fun e W' ⟨he, hj⟩ => ⟨he, .inl ⟨[], rfl, hj⟩⟩
  · exact (chunk1_in F n hF hro hn l Bs Bn b off len cap hlc hcap J Jx W hJ hY c1 c2 h0).mono fun e W' ⟨he, h⟩ => ⟨he, h.imp id fun ⟨pre, hj⟩ => ⟨pre, trivial, hj⟩⟩
end Go.Proofs.YtnoilogepkelaaaDoor
