/-
  NearTells: for every program, such as may not be among them, the program tells what is near, or what is wrong. No condition.
-/
import Derived.Test.YtodmkjeankbieabFrame
import Derived.Test.YtodmkjeankbieabOpenPg
import Derived.Test.YtodmkjeankbieabRefForm3
import Derived.Test.YtodmkjeankbieabRefNear2
namespace Go.Proofs.Ytodmkjeankbieab.nearTells
open Go.ChangeShapes Go.WideShapes Go.ChangeAt Go.RowKit Go.Joins

set_option maxHeartbeats 1000000 in
set_option maxRecDepth 100000 in
theorem walk (R : Nat → Prop) (v : Value) (p : Pg) (w : World) (h : RdPg w R v p) :
    Calls Try.prog 5 #[v] w fun e w' => e = .returned (.bool true) ∧ Below w.heap.size w w' := by
  have H := Lib.hid h
  obtain ⟨vw, vc, rfl, ⟨A, c, rfl, hl, hr⟩, ⟨A', c', rfl, hl', hr', ho'⟩⟩ := h
  clear hr hr' ho'
  have B0 := Lib.hid (Blk.new w 25 #[.slice A p.wide.length c, .slice A' p.code.length c'])
  go_enter Try.func5, Try.ntmps5
  go_wp2_with fail
  refine (nearOf_any R _ p _ (H.out.kept ((Kept.refl (fun _ => False) w).alloc _) (fun _ _ h => h))).mono ?_
  rintro e w1 ⟨f1, he⟩
  have B1 := B0.out.kept f1 (fun h => h)
  have F1 : Fr w w1 := ((Kept.refl _ w).alloc _).trans f1
  have c0 := B1.cell 0
  have c1 := B1.cell 1
  simp only [List.getElem?_toArray, List.getElem?_cons_succ, List.getElem?_cons_zero] at c0 c1
  have HB1 := Lib.hid B1
  have HF1 := Lib.hid F1
  clear B1 F1 f1 B0
  have HM := Lib.hid (fun w2 (hf : Fr w w2) => refMay_any R _ p w2 (H.out.kept hf (fun _ _ h => h)))
  rcases he with ⟨hm, rfl⟩ | ⟨hm, g0, rfl, hr1⟩
  · rw [hm] at HM
    clear hm
    go_wp2_with fail
    refine (HM.out _ HF1.out).mono ?_
    rintro e w2 ⟨rfl, f2⟩
    have HF2 := Lib.hid (HF1.out.trans f2)
    clear f2
    go_wp2
    go_ret
    exact ⟨rfl, Fr.below HF2.out⟩
  · have hmay := Lib.hid hm
    rw [hm] at HM
    have HR1 := Lib.hid hr1
    clear hm hr1
    go_wp2_with fail
    refine (HM.out _ HF1.out).mono ?_
    rintro e w2 ⟨rfl, f2⟩
    have HF2 := Lib.hid (HF1.out.trans f2)
    have HB2 := Lib.hid (HB1.out.kept f2 (fun h => h))
    have HR2 := Lib.hid (HR1.out.kept f2 (fun _ _ h => h))
    have c0 := HB2.out.cell 0
    have c1 := HB2.out.cell 1
    simp only [List.getElem?_toArray, List.getElem?_cons_succ, List.getElem?_cons_zero] at c0 c1
    clear f2
    go_wp2_with fail
    refine (refNearOf_any R _ p _ (H.out.kept HF2.out (fun _ _ h => h)) hmay.out).mono ?_
    rintro e w3 ⟨v3, rfl, hr3, f3⟩
    have HR3 := Lib.hid (HR2.out.kept f3 (fun _ _ h => h))
    have HQ3 := Lib.hid hr3
    have HF3 := Lib.hid (HF2.out.trans f3)
    clear f3 hr3
    go_wp2_with fail
    refine (refLiveSame_any _ _ _ _ _ _ HR3.out HQ3.out).mono ?_
    rintro e w4 ⟨rfl, f4⟩
    have HF4 := Lib.hid (HF3.out.trans f4)
    clear f4
    go_wp2
    go_ret
    exact ⟨rfl, Fr.below HF4.out⟩
set_option maxRecDepth 100000 in
theorem lifted (os : Os) (started : os.Started) (H : Type) (enc : TypeId × Value → H) :
    ReturnsInHanded {} Try.checked os 5 .any (Rows.nearTellsSpec.pre6 enc Try.prog Try.f5 Rows.nearTellsRow.domain false) (Rows.nearTellsSpec.post enc Try.prog Try.f5 false true false false) := by
  refine returnsInHanded_of_change (C := Try.checked) own started (by kernel_rfl) Try.func5
    (ChangeSpec.witness6 (enc := enc) (C := Try.checked) false ⟨#[], #[.agg #[.slice none 0 0, .slice none 0 0]], []⟩ 8 (by kernel_rfl) (by kernel_rfl) (by kernel_rfl) (by kernel_rfl)) ?_
  intro W base args ds gs before hval0 hW _ _
  have hval : ∀ (j : Nat) t v, Try.f5.params[j]? = some t → args[j]? = some v → Value.okWide Try.prog W .any base t v := hval0
  have hlt : ∀ x ∈ before, x.block < W.heap.size := fun x hx => hW.lt x hx
  have hW' := hW
  obtain ⟨p, q, hA0, hV, rfl, _, _⟩ := hW
  have hA : DataW.TrodAll enc Try.prog W 0 (fun _ => true) true Try.f5.params.toList args.toList ds p := hA0
  rw [Try.params5] at hA hval
  obtain ⟨v0, vs0, d0, ds0, p0, q0, hargs, rfl, rfl, h0, r0⟩ := trodAll_cons hA
  obtain ⟨rfl, rfl, rfl⟩ := trodAll_nil r0
  obtain rfl : args = #[v0] := by cases args; simp_all
  have hg : gs = [] := (trodVars_none hV).1
  subst hg
  suffices hwalk : Calls Try.prog 5 #[v0] W fun e W' => e = .returned (.bool true) ∧ Below W.heap.size W W' by
    refine hwalk.mono fun e W' ⟨he, hb⟩ => ?_
    subst he
    exact law_post (by kernel_rfl) rfl rfl hW' rfl hb
  obtain ⟨p, hp⟩ := open_pg (R := fun _ => True) (hval 0 25 v0 rfl rfl) h0 (fun _ _ => trivial)
  exact walk _ v0 p W hp

theorem over : Rows.nearTellsRow.holds Try.pinned (OpenSpec.ofChange Rows.nearTellsSpec) :=
  OpenClaim.holds_of_wide 5 Try.f5 rfl rfl rfl rfl rfl rfl rfl ⟨rfl, rfl, rfl, rfl, rfl⟩ rfl rfl rfl rfl rfl (by kernel_rfl) Try.func5 (by kernel_rfl)
    (of_decide_eq_true (by kernel_rfl)) (by unfold Func.isWrapper; first | (rw [if_pos (by decide +kernel)]; kernel_rfl) | (rw [if_neg (by decide +kernel)]; exact ⟨rfl, rfl⟩))
    (fun os started H enc _ => lifted os started H enc)

/-- the statement -/
theorem proved : Rows.NearTellsSaid := over
#print axioms proved
end Go.Proofs.Ytodmkjeankbieab.nearTells
