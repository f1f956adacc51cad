/- Arguments opened: a program, numbers. -/
import Derived.Test.YtodmkjeankbieabOpen
namespace Go.Proofs.Ytodmkjeankbieab
open Go.ChangeShapes Go.WideShapes Go.RowKit

section
variable {H : Type} {enc : TypeId × Value → H} {w : World} {base : Nat} {spare : Nat → Bool} {held : Bool}

theorem cIns : Try.prog.cellsOf 45 = 6 := by kernel_rfl

theorem open_in {n : Nat} {cs : List Value} {y : DataW H × List MemPlace} (hl : cs.length = 6) (h : DataW.trod enc Try.prog w base spare held n 45 cs = some y) : ∃ p : In, cs = p.cells ∧ p.ok := by
  obtain ⟨xs, m, _, _, _, hxl, hf⟩ := DataW.trod_struct Try.underlying45 h
  obtain ⟨a, b, c, d, e, f, rfl⟩ := list6 hl
  have h0 := field_at hf 0 rfl 3 rfl 0 rfl cInt (one := [a]) rfl
  have h1 := field_at hf 1 rfl 3 rfl 1 rfl cInt (one := [b]) rfl
  have h2 := field_at hf 2 rfl 3 rfl 2 rfl cInt (one := [c]) rfl
  have h3 := field_at hf 3 rfl 3 rfl 3 rfl cInt (one := [d]) rfl
  have h4 := field_at hf 4 rfl 3 rfl 4 rfl cInt (one := [e]) rfl
  have h5 := field_at hf 5 rfl 36 rfl 5 rfl cU32 (one := [f]) rfl
  obtain ⟨y0, hy0⟩ : ∃ y, xs[0]? = some y := ⟨_, List.getElem?_eq_getElem (by rw [hxl]; decide)⟩
  obtain ⟨y1, hy1⟩ : ∃ y, xs[1]? = some y := ⟨_, List.getElem?_eq_getElem (by rw [hxl]; decide)⟩
  obtain ⟨y2, hy2⟩ : ∃ y, xs[2]? = some y := ⟨_, List.getElem?_eq_getElem (by rw [hxl]; decide)⟩
  obtain ⟨y3, hy3⟩ : ∃ y, xs[3]? = some y := ⟨_, List.getElem?_eq_getElem (by rw [hxl]; decide)⟩
  obtain ⟨y4, hy4⟩ : ∃ y, xs[4]? = some y := ⟨_, List.getElem?_eq_getElem (by rw [hxl]; decide)⟩
  obtain ⟨y5, hy5⟩ : ∃ y, xs[5]? = some y := ⟨_, List.getElem?_eq_getElem (by rw [hxl]; decide)⟩
  rw [hy0] at h0
  rw [hy1] at h1
  rw [hy2] at h2
  rw [hy3] at h3
  rw [hy4] at h4
  rw [hy5] at h5
  obtain ⟨n0, e0, _, w0⟩ := DataW.trod_int Try.underlying3 h0
  obtain ⟨n1, e1, _, w1⟩ := DataW.trod_int Try.underlying3 h1
  obtain ⟨n2, e2, _, w2⟩ := DataW.trod_int Try.underlying3 h2
  obtain ⟨n3, e3, _, w3⟩ := DataW.trod_int Try.underlying3 h3
  obtain ⟨n4, e4, _, w4⟩ := DataW.trod_int Try.underlying3 h4
  obtain ⟨n5, e5, _, w5⟩ := DataW.trod_int Try.underlying36 h5
  have b5 := bounds_u32 w5
  simp only [List.cons.injEq, and_true] at e0 e1 e2 e3 e4 e5
  subst e0 e1 e2 e3 e4 e5
  exact ⟨⟨n0, n1, n2, n3, n4, n5.toNat⟩, by simp [In.cells]; omega, inI_of w0, inI_of w1, inI_of w2, inI_of w3, inI_of w4, by simp only; omega⟩

theorem open_ins {R : Nat → Prop} {fuel : Nat} {v : Value} {d : DataW H} {ps : List MemPlace} (h : DataW.trod enc Try.prog w base spare held fuel 23 [v] = some (d, ps)) (hR : ∀ x ∈ ps, R x.block) : ∃ l : List In, RdIn w R v l := by
  obtain ⟨l, A, c, hv, hl, hr, ho, hb, _, _⟩ := open_sl (f := In.cells) (ok := In.ok) (wt := fun _ => 0) (R := R) Try.underlying23 cIns (by decide) In.len
    (fun cs D Pl n hl ht _ => by
      obtain ⟨p, e, o⟩ := open_in hl ht
      exact ⟨p, e, o, Nat.zero_le _⟩) h hR
  exact ⟨l, A, c, hv, hl, hr, ho⟩

theorem flat_bool : ∀ l : List Bool, (l.flatMap fun x => [Value.bool x]) = l.map Value.bool
  | [] => rfl
  | x :: l => by rw [List.flatMap_cons, flat_bool l]; rfl
theorem open_bos {R : Nat → Prop} {fuel : Nat} {v : Value} {d : DataW H} {ps : List MemPlace} (h : DataW.trod enc Try.prog w base spare held fuel 22 [v] = some (d, ps)) (hR : ∀ x ∈ ps, R x.block) : ∃ l : List Bool, RdBo w R v l := by
  obtain ⟨l, A, c, hv, hl, hr, _, _, _, _⟩ := open_sl (f := fun x : Bool => [Value.bool x]) (ok := fun _ => True) (wt := fun _ => 0) (R := R) Try.underlying22 cBool (by decide) (fun _ => rfl)
    (fun cs D Pl n hl ht _ => by
      obtain ⟨x, e, _⟩ := DataW.trod_bool Try.underlying4 ht
      exact ⟨x, e, trivial, Nat.zero_le _⟩) h hR
  rw [flat_bool] at hr
  exact ⟨l, A, c, hv, hl, hr⟩
set_option maxRecDepth 100000 in
theorem open_pg {R : Nat → Prop} {r : Reach} {b0 : Nat} {v : Value} {d : DataW H} {ps : List MemPlace} (hv : Value.okWide Try.prog w r b0 25 v) (h : DataW.Trod enc Try.prog w base spare held 25 v d ps) (hR : ∀ x ∈ ps, R x.block) :
    ∃ p : Pg, RdPg w R v p := by
  obtain ⟨c0, c1, y0, y1, m, rfl, rfl, rfl, f0, f1⟩ := Joins.open_agg2 Try.underlying25 (by kernel_rfl) (by kernel_rfl) hv h
  obtain ⟨wide, hw⟩ := open_bos (R := R) f0 (fun x hx => hR x (by simp; exact .inl hx))
  obtain ⟨code, hc⟩ := open_ins (R := R) f1 (fun x hx => hR x (by simp; exact .inr hx))
  exact ⟨⟨wide, code⟩, c0, c1, rfl, hw, hc⟩
end
end Go.Proofs.Ytodmkjeankbieab
