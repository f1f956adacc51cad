/- Arguments opened: numbers of 32 bits. -/
import Derived.Test.YtodmkjeankbieabOpenPg
namespace Go.Proofs.Ytodmkjeankbieab
open Go.ChangeShapes Go.WideShapes Go.RowKit Go.ChangeAt Go.Deep
section
variable {H : Type} {enc : TypeId × Value → H} {w : World} {base : Nat} {spare : Nat → Bool} {held : Bool}
theorem open_u32s {R : Nat → Prop} {fuel : Nat} {v : Value} {d : DataW H} {ps : List MemPlace} (h : DataW.trod enc Try.prog w base spare held fuel 26 [v] = some (d, ps)) (hR : ∀ x ∈ ps, R x.block) : ∃ l : List Int, RdInt .u32 w R v l := by
  obtain ⟨l, A, c, hv, hl, hr, ho, _, _, _⟩ := open_sl (f := fun x : Int => [Value.int .u32 x]) (ok := fun x => (Lit.int .u32 x).wf = true) (wt := fun _ => 0) (R := R) Try.underlying26 cU32 (by decide) (fun _ => rfl)
    (fun cs D Pl n hl ht _ => by
      obtain ⟨x, e, _, wx⟩ := DataW.trod_int Try.underlying36 ht
      exact ⟨x, e, wx, Nat.zero_le _⟩) h hR
  rw [flat_one] at hr
  exact ⟨l, A, c, hv, hl, hr, ho⟩
set_option maxRecDepth 100000 in
theorem open_u32 {R : Nat → Prop} {r : Reach} {b0 : Nat} {v : Value} {d : DataW H} {ps : List MemPlace} (hv : Value.okWide Try.prog w r b0 26 v) (h : DataW.Trod enc Try.prog w base spare held 26 v d ps) (hR : ∀ x ∈ ps, R x.block) :
    ∃ (A : Option Addr) (c : Nat) (l : List Int), v = .slice A l.length c ∧ Reads w R 1 A l.length (l.map (Value.int .u32)) ∧ (∀ x ∈ l, 0 ≤ x ∧ x < 4294967296) ∧ l.length ≤ c ∧ c ≤ maxLen := by
  obtain ⟨a0, len, cap, rfl⟩ := okWide_slice Try.underlying26 hv
  obtain ⟨fuel, hf⟩ := h
  obtain ⟨l, A, c, hv, hl, hr, ho, _, h1, h2⟩ := open_sl (f := fun x : Int => [Value.int .u32 x]) (ok := fun x => 0 ≤ x ∧ x < 4294967296) (wt := fun _ => 0) (R := R) Try.underlying26 cU32 (by decide) (fun _ => rfl)
    (fun cs D Pl n hl ht _ => by
      obtain ⟨x, e, _, wx⟩ := DataW.trod_int Try.underlying36 ht
      exact ⟨x, e, by have := bounds_u32 wx; omega, Nat.zero_le _⟩) (by simpa [Value.cells] using hf) hR
  rw [flat_one] at hr
  exact ⟨A, c, l, hv, hr, ho, h1, h2⟩
end
end Go.Proofs.Ytodmkjeankbieab
