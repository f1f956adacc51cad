/- BuildTakes -/
import Derived.Test.YtodmkjeankbieabKAllk34
import Derived.Test.YtodmkjeankbieabKAllk23
set_option linter.all false
namespace Go.Proofs.Ytodmkjeankbieab.buildTakes
open Go.ChangeShapes Go.WideShapes Go.ChangeAt Go.RowKit Go.Joins

set_option maxHeartbeats 2000000 in
set_option maxRecDepth 100000 in
theorem same0_any (w : World) : Calls Try.prog 35 #[.agg #[.int .i64 0, .slice none 0 0], .agg #[.int .i64 0, .slice none 0 0]] w fun e w' => e = .returned (.bool true) ∧ Fr w w' := by
 have HF := Lib.hid (show Fr w ((w.alloc (.cells #[.int .i64 0, .slice none 0 0] 50)).alloc (.cells #[.int .i64 0, .slice none 0 0] 50)) from ((Kept.refl _ w).alloc _).alloc _)
 go_enter Try.func35, Try.ntmps35
 go_wp2
 go_loopw [5] (fun i wr => i = .int .i64 0 ∧ wr = ((w.alloc (.cells #[.int .i64 0, .slice none 0 0] 50)).alloc (.cells #[.int .i64 0, .slice none 0 0] 50))) (fun _ _ => 0)
 case atStart => exact ⟨rfl, rfl⟩
 case round =>
   obtain ⟨rfl, rfl⟩ := hrel
   go_wp2
   go_ret
   exact ⟨rfl, HF.out⟩

set_option maxHeartbeats 4000000 in
set_option maxRecDepth 100000 in
theorem walk (R : Nat → Prop) (v : Value) (p : Pg) (sg : Int) (w : World) (h : RdPg w R v p) :
   Calls Try.prog 11 #[v, tgV sg] w fun e w' => e = .returned (.bool true) ∧ Below w.heap.size w w' := by
 have H := Lib.hid h
 obtain ⟨vw, vc, rfl, ⟨A1, c1, rfl, hl1, hr1⟩, ⟨A2, c2, rfl, hl2, hr2, ho2⟩⟩ := h
 clear hr1 hr2 ho2
 have HQ := Lib.hid (Q2.start w #[.slice A1 p.wide.length c1, .slice A2 p.code.length c2] #[.int .i64 sg])
 have HMy := Lib.hid (fun w2 (hf : Fr w w2) => refMay_any R _ p w2 (H.out.kept hf (fun _ _ h => h)))
 have HTg := Lib.hid (fun w2 => refTarget_any sg w2)
 have HBu := Lib.hid (fun w2 (hf : Fr w w2) => build_any R _ p sg w2 (H.out.kept hf (fun _ _ h => h)))
 unfold tgV at HTg HBu ⊢
 go_enter Try.func11, Try.ntmps11
 go_wp2_with fail
 refine (HBu.out _ HQ.out.fr).mono ?_
 rintro e w1 ⟨f1, hb1⟩
 rcases hb1 with ⟨hno, rfl⟩ | ⟨hmb, htb, Ab, cb, rfl, hrd⟩
 · have f1a : Fr w1 (w1.alloc (.cells #[.int .i64 0, .slice none 0 0] 50)) := (Kept.refl _ w1).alloc _
   have HQ2 := Lib.hid ((HQ.out.keep f1).keep f1a)
   have HPB := Lib.hid (Blk.new w1 50 #[.int .i64 0, .slice none 0 0])
   have HNO := Lib.hid hno
   clear HQ HBu f1 f1a hno
   have p0 := HQ2.out.b0.cell 0
   have p1 := HQ2.out.b0.cell 1
   have z0 := HQ2.out.b0.lt
   simp only [List.getElem?_toArray, List.getElem?_cons_succ, List.getElem?_cons_zero] at p0 p1
   go_wp2_with fail
   refine (HMy.out _ HQ2.out.fr).mono ?_
   rintro e w2 ⟨rfl, f2⟩
   have HQ3 := Lib.hid (HQ2.out.keep f2)
   have HPB3 := Lib.hid (HPB.out.kept f2 (fun h => h))
   clear HQ2 HPB HMy f2 p0 p1 z0
   cases hm : mayB p with
   | false =>
     clear hm HNO
     have l0 := HPB3.out.cell 0
     have l1 := HPB3.out.cell 1
     have zl := HPB3.out.lt
     simp only [List.getElem?_toArray, List.getElem?_cons_succ, List.getElem?_cons_zero] at l0 l1
     go_wp2_with fail
     refine (same0_any _).mono ?_
     rintro e w3 ⟨rfl, f3⟩
     have HF := Lib.hid (HQ3.out.fr.trans f3)
     go_wp2
     go_ret
     exact ⟨rfl, Fr.below HF.out⟩
   | true =>
     have HT := Lib.hid (show tgB sg = false from by have := HNO.out; rw [hm] at this; simpa using this)
     clear hm HNO
     have t0 := HQ3.out.b1.cell 0
     have z1 := HQ3.out.b1.lt
     simp only [List.getElem?_toArray, List.getElem?_cons_succ, List.getElem?_cons_zero] at t0
     go_wp2_with fail
     refine (HTg.out _).mono ?_
     rintro e w3 ⟨he, f3⟩
     rw [HT.out] at he
     subst he
     have HQ4 := Lib.hid (HQ3.out.keep f3)
     have HPB4 := Lib.hid (HPB3.out.kept f3 (fun h => h))
     clear HQ3 HPB3 f3 t0 z1 HTg
     have l0 := HPB4.out.cell 0
     have l1 := HPB4.out.cell 1
     have zl := HPB4.out.lt
     simp only [List.getElem?_toArray, List.getElem?_cons_succ, List.getElem?_cons_zero] at l0 l1
     go_wp2_with fail
     refine (same0_any _).mono ?_
     rintro e w5 ⟨rfl, f5⟩
     have HF := Lib.hid (HQ4.out.fr.trans f5)
     go_wp2
     go_ret
     exact ⟨rfl, Fr.below HF.out⟩
 · have f1a : Fr w1 (w1.alloc (.cells #[.int .i64 (p.wide.length : Int), .slice Ab p.code.length cb] 50)) := (Kept.refl _ w1).alloc _
   have HQ2 := Lib.hid ((HQ.out.keep f1).keep f1a)
   have HPB := Lib.hid (Blk.new w1 50 #[.int .i64 (p.wide.length : Int), .slice Ab p.code.length cb])
   have HRD := Lib.hid (hrd.kept f1a (fun _ _ h => h))
   obtain ⟨w2, hw2⟩ : ∃ w2 : World, w2 = w1.alloc (.cells #[.int .i64 (p.wide.length : Int), .slice Ab p.code.length cb] 50) := ⟨_, rfl⟩
   have HW2 := Lib.hid hw2
   rw [← hw2] at HQ2 HPB HRD
   have HTK := Lib.hid (fun w3 (hf : Fr w2 w3) => takes8_any R _ _ _ p sg (buildF p sg) w3 (H.out.kept (HQ2.out.fr.trans hf) (fun _ _ h => h)) (HRD.out.kept hf (fun _ _ h => h)))
   have HMB := Lib.hid hmb
   have HTB := Lib.hid htb
   have HOK := Lib.hid (buildF_ok hmb htb)
   unfold tgV at HTK
   clear HQ HBu f1 f1a hrd hw2 hmb htb
   have p0 := HQ2.out.b0.cell 0
   have p1 := HQ2.out.b0.cell 1
   have z0 := HQ2.out.b0.lt
   simp only [List.getElem?_toArray, List.getElem?_cons_succ, List.getElem?_cons_zero] at p0 p1
   go_upto_region 2 with fail
   rw [← HW2.out]
   go_wp2_with fail
   refine (HMy.out _ HQ2.out.fr).mono ?_
   rintro e w3 ⟨he, f3⟩
   rw [HMB.out] at he
   subst he
   have HQ3 := Lib.hid (HQ2.out.keep f3)
   clear HMy p0 p1 z0
   have t0 := HQ3.out.b1.cell 0
   have z1 := HQ3.out.b1.lt
   simp only [List.getElem?_toArray, List.getElem?_cons_succ, List.getElem?_cons_zero] at t0
   go_wp2_with fail
   refine (HTg.out _).mono ?_
   rintro e w4 ⟨he, f4⟩
   rw [HTB.out] at he
   subst he
   have HQ4 := Lib.hid (HQ3.out.keep f4)
   have f24 := f3.trans f4
   have HPB4 := Lib.hid (HPB.out.kept f24 (fun h => h))
   have HT4 := Lib.hid (HTK.out w4 f24)
   clear HQ3 HQ2 HTK HPB HRD HTg f3 f4 f24 t0 z1
   have p0 := HQ4.out.b0.cell 0
   have p1 := HQ4.out.b0.cell 1
   have t0 := HQ4.out.b1.cell 0
   have l0 := HPB4.out.cell 0
   have l1 := HPB4.out.cell 1
   have z0 := HQ4.out.b0.lt
   have z1 := HQ4.out.b1.lt
   have zl := HPB4.out.lt
   simp only [List.getElem?_toArray, List.getElem?_cons_succ, List.getElem?_cons_zero] at p0 p1 t0 l0 l1
   go_wp2_with fail
   refine HT4.out.mono ?_
   rintro e w5 ⟨b, rfl, hb, f5⟩
   have hbt := hb.2 HOK.out
   subst hbt
   have HF := Lib.hid (HQ4.out.fr.trans f5)
   go_wp2
   go_ret
   exact ⟨rfl, Fr.below HF.out⟩
set_option maxRecDepth 100000 in
theorem lifted (os : Os) (started : os.Started) (H : Type) (enc : TypeId × Value → H) :
   ReturnsInHanded {} Try.checked os 11 .any (Rows.buildTakesSpec.pre6 enc Try.prog Try.f11 Rows.buildTakesRow.domain false) (Rows.buildTakesSpec.post enc Try.prog Try.f11 false true false false) := by
 refine returnsInHanded_of_change (C := Try.checked) own started (by kernel_rfl) Try.func11
   (ChangeSpec.witness6 (enc := enc) (C := Try.checked) false ⟨#[], #[.agg #[.slice none 0 0, .slice none 0 0], .agg #[.int .i64 0]], []⟩ 8 (by kernel_rfl) (by kernel_rfl) (by kernel_rfl) (by kernel_rfl)) ?_
 intro W base args ds gs before hval0 hW _ _
 have hval : ∀ (j : Nat) t v, Try.f11.params[j]? = some t → args[j]? = some v → Value.okWide Try.prog W .any base t v := hval0
 have hlt : ∀ x ∈ before, x.block < W.heap.size := fun x hx => hW.lt x hx
 have hW' := hW
 obtain ⟨p, q, hA0, hV, rfl, _, _⟩ := hW
 have hA : DataW.TrodAll enc Try.prog W 0 (fun _ => true) true Try.f11.params.toList args.toList ds p := hA0
 rw [Try.params11] at hA hval
 obtain ⟨v0, vs0, d0, ds0, p0, q0, hargs, rfl, rfl, h0, r0⟩ := trodAll_cons hA
 obtain ⟨v1, vs1, d1, ds1, p1, q1, rfl, rfl, rfl, h1, r1⟩ := trodAll_cons r0
 obtain ⟨rfl, rfl, rfl⟩ := trodAll_nil r1
 obtain rfl : args = #[v0, v1] := by cases args; simp_all
 have hg : gs = [] := (trodVars_none hV).1
 subst hg
 suffices hwalk : Calls Try.prog 11 #[v0, v1] W fun e W' => e = .returned (.bool true) ∧ Below W.heap.size W W' by
   refine hwalk.mono fun e W' ⟨he, hb⟩ => ?_
   subst he
   exact law_post (by kernel_rfl) rfl rfl hW' rfl hb
 obtain ⟨p, hp⟩ := open_pg (R := fun _ => True) (hval 0 25 v0 rfl rfl) h0 (fun _ _ => trivial)
 obtain ⟨sg, rfl⟩ := open_tg (hval 1 47 v1 rfl rfl) h1
 exact walk _ v0 p sg W hp

theorem over : Rows.buildTakesRow.holds Try.pinned (OpenSpec.ofChange Rows.buildTakesSpec) :=
 OpenClaim.holds_of_wide 11 Try.f11 rfl rfl rfl rfl rfl rfl rfl ⟨rfl, rfl, rfl, rfl, rfl⟩ rfl rfl rfl rfl rfl (by kernel_rfl) Try.func11 (by kernel_rfl)
   (of_decide_eq_true (by kernel_rfl)) (by unfold Func.isWrapper; first | (rw [if_pos (by decide +kernel)]; kernel_rfl) | (rw [if_neg (by decide +kernel)]; exact ⟨rfl, rfl⟩))
   (fun os started H enc _ => lifted os started H enc)

theorem proved : Rows.BuildTakesSaid := over
#print axioms proved
end Go.Proofs.Ytodmkjeankbieab.buildTakes


