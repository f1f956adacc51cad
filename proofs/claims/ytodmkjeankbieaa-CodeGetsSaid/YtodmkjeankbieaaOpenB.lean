/- Bytes among the arguments. -/
import Derived.Test.YtodmkjeankbieaaOpen
namespace Go.Proofs.Ytodmkjeankbieaa
open Go.ChangeShapes Go.WideShapes Go.ChangeAt Go.RowKit Go.Deep
section
variable {H : Type} {enc : TypeId × Value → H} {w : World} {base : Nat} {spare : Nat → Bool} {held : Bool}
set_option maxRecDepth 100000 in
theorem open_bytes {R : Nat → Prop} {r : Reach} {b0 : Nat} {v : Value} {d : DataW H} {ps : List MemPlace} (hv : Value.okWide Try.prog w r b0 35 v) (h : DataW.Trod enc Try.prog w base spare held 35 v d ps) (hR : ∀ x ∈ ps, R x.block) :
    ∃ (A : Option Addr) (c : Nat) (l : List Int), v = .slice A l.length c ∧ Reads w R 1 A l.length (l.map (Value.int .u8)) ∧ (∀ x ∈ l, 0 ≤ x ∧ x ≤ 255) ∧ l.length ≤ c ∧ c ≤ maxLen := by
  obtain ⟨a0, len, cap, rfl⟩ := okWide_slice Try.underlying35 hv
  obtain ⟨fuel, hf⟩ := h
  obtain ⟨l, A, c, hv, hl, hr, ho, _, h1, h2⟩ := open_sl (f := fun x : Int => [Value.int .u8 x]) (ok := fun x => 0 ≤ x ∧ x ≤ 255) (wt := fun _ => 0) (R := R) Try.underlying35 cU8 (by decide) (fun _ => rfl)
    (fun cs D Pl n hl ht _ => by
      obtain ⟨x, e, _, wx⟩ := DataW.trod_int Try.underlying5 ht
      exact ⟨x, e, bounds_u8 wx, Nat.zero_le _⟩) (by simpa [Value.cells] using hf) hR
  rw [flat_one] at hr
  exact ⟨A, c, l, hv, hr, ho, h1, h2⟩
end
end Go.Proofs.Ytodmkjeankbieaa
