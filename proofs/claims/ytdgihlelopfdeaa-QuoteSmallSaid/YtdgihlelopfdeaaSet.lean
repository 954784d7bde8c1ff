/-
  A set of bytes as an argument: four words: opened, and shut.
-/
import Derived.Test.YtdgihlelopfdeaaBack
import Derived.OpenShut
import Derived.ShutString
import Derived.Lib.SmallJoins
namespace Go.Proofs.Ytdgihlelopfdeaa
open Go.RowKit Go.ChangeShapes Go.WideShapes Q

section
variable {H : Type} {enc : TypeId × Value → H} {w : World} {base : Nat} {spare : Nat → Bool} {held : Bool}
theorem okWide_set {r : Reach} {b0 : Nat} {v : Value} (h : Value.okWide Try.prog w r b0 24 v) : ∃ cs, v = .agg cs ∧ cs.size = 4 := by
  simp only [Value.okWide, Try.underlying24] at h
  obtain ⟨cs, h1, h2, _⟩ := h
  exact ⟨cs, h1, h2.trans (by kernel_rfl)⟩

theorem arr4 {α : Type} {cs : Array α} (h : cs.size = 4) : ∃ c0 c1 c2 c3, cs = #[c0, c1, c2, c3] := by
  obtain ⟨l⟩ := cs
  match l, h with
  | [c0, c1, c2, c3], _ => exact ⟨c0, c1, c2, c3, rfl⟩
theorem list4 {α : Type} {cs : List α} (h : cs.length = 4) : ∃ c0 c1 c2 c3, cs = [c0, c1, c2, c3] := by
  match cs, h with
  | [c0, c1, c2, c3], _ => exact ⟨c0, c1, c2, c3, rfl⟩
theorem wf64 {n : Int} : (Lit.int .u64 n).wf = true ↔ 0 ≤ n ∧ n ≤ 18446744073709551615 := by
  simp [Lit.wf, IntKind.min, IntKind.max, IntKind.signed, IntKind.bits]
theorem cells22 : Try.prog.cellsOf 22 = 1 := by kernel_rfl
theorem cells24 : Try.prog.cellsOf 24 = 4 := by kernel_rfl
theorem open_set {r : Reach} {b0 : Nat} {v : Value} {d : DataW H} {p : List MemPlace} (hv : Value.okWide Try.prog w r b0 24 v) (h : DataW.Trod enc Try.prog w base spare held 24 v d p) :
    ∃ x0 x1 x2 x3 : Int, v = .agg #[.int .u64 x0, .int .u64 x1, .int .u64 x2, .int .u64 x3] ∧ d = .agg [.lit (.int .u64 x0), .lit (.int .u64 x1), .lit (.int .u64 x2), .lit (.int .u64 x3)] ∧ p = [] ∧ Words x0 x1 x2 x3 := by
  obtain ⟨cs, rfl, hsz⟩ := okWide_set hv
  obtain ⟨c0, c1, c2, c3, rfl⟩ := arr4 hsz
  obtain ⟨fuel, hf⟩ := h
  obtain ⟨xs, m, _, hx, _, hl, hi⟩ := DataW.trod_array Try.underlying24 hf
  obtain ⟨y0, y1, y2, y3, rfl⟩ := list4 hl
  have h0 := hi 0 (by omega)
  have h1 := hi 1 (by omega)
  have h2 := hi 2 (by omega)
  have h3 := hi 3 (by omega)
  simp only [cells22, Value.cells] at h0 h1 h2 h3
  obtain ⟨x0, e0, r0, w0⟩ := DataW.trod_int Try.underlying22 (x := y0) (by simpa using h0)
  obtain ⟨x1, e1, r1, w1⟩ := DataW.trod_int Try.underlying22 (x := y1) (by simpa using h1)
  obtain ⟨x2, e2, r2, w2⟩ := DataW.trod_int Try.underlying22 (x := y2) (by simpa using h2)
  obtain ⟨x3, e3, r3, w3⟩ := DataW.trod_int Try.underlying22 (x := y3) (by simpa using h3)
  simp at e0 e1 e2 e3
  subst e0 e1 e2 e3 r0 r1 r2 r3
  simp at hx
  exact ⟨x0, x1, x2, x3, rfl, hx.1, hx.2, wf64.1 w0, wf64.1 w1, wf64.1 w2, wf64.1 w3⟩

theorem shut_set {x0 x1 x2 x3 : Int} (hw : Words x0 x1 x2 x3) : DataW.Trod enc Try.prog w base spare held 24 (.agg #[.int .u64 x0, .int .u64 x1, .int .u64 x2, .int .u64 x3]) (.agg [.lit (.int .u64 x0), .lit (.int .u64 x1), .lit (.int .u64 x2), .lit (.int .u64 x3)]) [] := by
  obtain ⟨h0, h1, h2, h3⟩ := hw
  refine ⟨2, ?_⟩
  have e : ∀ n : Int, 0 ≤ n ∧ n ≤ 18446744073709551615 → DataW.trod enc Try.prog w base spare held 1 22 [.int .u64 n] = some (.lit (.int .u64 n), []) := fun n hn => trod_int_mk 0 Try.underlying22 (wf64.2 hn)
  unfold DataW.trod
  rw [Try.underlying24]
  simp [cells22, cells24, Value.cells, e _ h0, e _ h1, e _ h2, e _ h3, List.range_succ]
end
end Go.Proofs.Ytdgihlelopfdeaa
