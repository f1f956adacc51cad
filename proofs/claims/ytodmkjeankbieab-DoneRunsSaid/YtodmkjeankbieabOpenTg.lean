/- A target that came in. -/
import Derived.Test.YtodmkjeankbieabOpenPg
import Derived.Test.YtodmkjeankbieabPlace
namespace Go.Proofs.Ytodmkjeankbieab
open Go.ChangeShapes Go.WideShapes Go.ChangeAt Go.RowKit Go.Joins

section
variable {H : Type} {enc : TypeId × Value → H} {w : World} {base : Nat} {spare : Nat → Bool} {held : Bool}
set_option maxRecDepth 100000 in
theorem open_tg {r : Reach} {b0 : Nat} {v : Value} {d : DataW H} {ps : List MemPlace} (hv : Value.okWide Try.prog w r b0 47 v) (h : DataW.Trod enc Try.prog w base spare held 47 v d ps) : ∃ sg : Int, v = tgV sg := by
  obtain ⟨cs, rfl, hsz⟩ := okWide_struct Try.underlying47 hv
  obtain ⟨c0, rfl⟩ : ∃ c0, cs = #[c0] := by
    obtain ⟨l⟩ := cs
    have hC : Try.prog.cellsOf 47 = 1 := by kernel_rfl
    match l, hsz.trans hC with
    | [c0], _ => exact ⟨c0, rfl⟩
  obtain ⟨fuel, hf⟩ := h
  obtain ⟨xs, n, _, _, hlen, hxl, hfl⟩ := DataW.trod_struct Try.underlying47 hf
  have h0 := field_at hfl 0 rfl 3 rfl 0 rfl cInt (one := [c0]) rfl
  obtain ⟨y0, hy0⟩ : ∃ y, xs[0]? = some y := ⟨_, List.getElem?_eq_getElem (by rw [hxl]; decide)⟩
  rw [hy0] at h0
  obtain ⟨n, e0, _, w0⟩ := DataW.trod_int Try.underlying3 h0
  simp only [List.cons.injEq, and_true] at e0
  subst e0
  exact ⟨n, rfl⟩
end
end Go.Proofs.Ytodmkjeankbieab
