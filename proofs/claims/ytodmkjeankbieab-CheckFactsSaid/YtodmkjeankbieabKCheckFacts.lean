/-
  CheckFacts: for every program, target and places, such as may not be among them, the program tells what is known ahead of each instruction, or what is wrong. No condition.
-/
import Derived.Test.YtodmkjeankbieabKAllk28
set_option linter.all false
namespace Go.Proofs.Ytodmkjeankbieab.checkFacts
open Go.ChangeShapes Go.WideShapes Go.ChangeAt Go.RowKit Go.Joins

set_option maxHeartbeats 4000000 in
set_option maxRecDepth 100000 in
theorem walk (R R' : Nat → Prop) (v vl : Value) (p : Pg) (sg : Int) (l : Pd) (w : World) (h : RdPg w R v p) (hL : RdPd w R' vl l) :
   Calls Try.prog 14 #[v, tgV sg, vl] w fun e w' => e = .returned (.bool true) ∧ Below w.heap.size w w' := by
 have H := Lib.hid h
 have HL := Lib.hid hL
 obtain ⟨vw, vc, rfl, ⟨A1, c1, rfl, hl1, hr1⟩, ⟨A2, c2, rfl, hl2, hr2, ho2⟩⟩ := h
 obtain ⟨vr, lv, rfl, hsl, ⟨Al, cl, rfl, hlr, hrr, hor⟩, hrows⟩ := hL
 clear hr1 hr2 ho2 hrr hor hrows hsl
 have HQ := Lib.hid (Q3.start w #[.slice A1 p.wide.length c1, .slice A2 p.code.length c2] #[.int .i64 sg] #[.int .i64 l.slots, .slice Al lv.length cl])
 have HCk := Lib.hid (fun w2 (hf : Fr w w2) => ckFacts_any R R' _ _ p sg l w2 (H.out.kept hf (fun _ _ h => h)) (HL.out.kept hf (fun _ _ h => h)))
 have HMy := Lib.hid (fun w2 (hf : Fr w w2) => refPlaceMay_any R R' _ _ p sg l w2 (H.out.kept hf (fun _ _ h => h)) (HL.out.kept hf (fun _ _ h => h)))
 rw [← mayL_eq] at HMy
 have HF8 := Lib.hid (fun w2 (hf : Fr w w2) (hm : mayL p sg l = true) => facts8_any R R' _ _ p sg l w2 (H.out.kept hf (fun _ _ h => h)) (HL.out.kept hf (fun _ _ h => h)) hm)
 unfold tgV at HCk HMy HF8 ⊢
 go_enter Try.func14, Try.ntmps14
 go_wp2_with fail
 refine (HCk.out _ HQ.out.fr).mono ?_
 rintro e w1 ⟨f1, hb1⟩
 have HQ1 := Lib.hid (HQ.out.keep f1)
 rcases hb1 with ⟨hno, rfl⟩ | ⟨hyes, u, rfl, hrd⟩
 · have HNO := Lib.hid hno
   clear HCk HQ f1 hno HF8
   have p0 := HQ1.out.b0.cell 0
   have p1 := HQ1.out.b0.cell 1
   have t0 := HQ1.out.b1.cell 0
   have l0 := HQ1.out.b2.cell 0
   have l1 := HQ1.out.b2.cell 1
   have z0 := HQ1.out.b0.lt
   have z1 := HQ1.out.b1.lt
   have z2 := HQ1.out.b2.lt
   simp only [List.getElem?_toArray, List.getElem?_cons_succ, List.getElem?_cons_zero] at p0 p1 t0 l0 l1
   go_wp2_with fail
   refine (HMy.out _ HQ1.out.fr).mono ?_
   rintro e w2 ⟨he, f2⟩
   rw [HNO.out] at he
   subst he
   have HF := Lib.hid (HQ1.out.fr.trans f2)
   clear f2 p0 p1 t0 l0 l1 z0 z1 z2
   go_wp2
   go_ret
   exact ⟨rfl, Fr.below HF.out⟩
 · have HYES := Lib.hid hyes
   have HRD := Lib.hid hrd
   have hpl := (mayB_len (mayL_facts hyes).1).2.2.2
   obtain ⟨Au, cu, vsu, rfl, _, _⟩ := id hrd
   clear HCk HQ f1 hyes hrd
   have p0 := HQ1.out.b0.cell 0
   have p1 := HQ1.out.b0.cell 1
   have t0 := HQ1.out.b1.cell 0
   have l0 := HQ1.out.b2.cell 0
   have l1 := HQ1.out.b2.cell 1
   have z0 := HQ1.out.b0.lt
   have z1 := HQ1.out.b1.lt
   have z2 := HQ1.out.b2.lt
   simp only [List.getElem?_toArray, List.getElem?_cons_succ, List.getElem?_cons_zero] at p0 p1 t0 l0 l1
   go_wp2_with fail
   refine (HMy.out _ HQ1.out.fr).mono ?_
   rintro e w2 ⟨he, f2⟩
   rw [HYES.out] at he
   subst he
   have HQ2 := Lib.hid (HQ1.out.keep f2)
   have HRD2 := Lib.hid (HRD.out.kept f2 (fun _ _ h => h))
   have HF82 := Lib.hid (HF8.out _ HQ2.out.fr HYES.out)
   clear HRD HMy HQ1 HF8 f2 p0 p1 t0 l0 l1 z0 z1 z2
   have p0 := HQ2.out.b0.cell 0
   have p1 := HQ2.out.b0.cell 1
   have t0 := HQ2.out.b1.cell 0
   have l0 := HQ2.out.b2.cell 0
   have l1 := HQ2.out.b2.cell 1
   have z0 := HQ2.out.b0.lt
   have z1 := HQ2.out.b1.lt
   have z2 := HQ2.out.b2.lt
   simp only [List.getElem?_toArray, List.getElem?_cons_succ, List.getElem?_cons_zero] at p0 p1 t0 l0 l1
   go_wp2_with fail
   refine HF82.out.mono ?_
   rintro e w3 ⟨f3, u3, rfl, hrd3⟩
   have HQ3 := Lib.hid (HQ2.out.keep f3)
   have HSM := Lib.hid (same8_any _ _ _ _ p.code.length _ w3 (HRD2.out.kept f3 (fun _ _ h => h)) hrd3 (by omega))
   clear HQ2 HRD2 HF82 f3 hrd3 p0 p1 t0 l0 l1 z0 z1 z2
   go_wp2_with fail
   refine HSM.out.mono ?_
   rintro e w4 ⟨rfl, f4⟩
   have HF := Lib.hid (HQ3.out.fr.trans f4)
   clear f4
   go_wp2
   go_ret
   exact ⟨rfl, Fr.below HF.out⟩
set_option maxRecDepth 100000 in
theorem lifted (os : Os) (started : os.Started) (H : Type) (enc : TypeId × Value → H) :
   ReturnsInHanded {} Try.checked os 14 .any (Rows.checkFactsSpec.pre6 enc Try.prog Try.f14 Rows.checkFactsRow.domain false) (Rows.checkFactsSpec.post enc Try.prog Try.f14 false true false false) := by
 refine returnsInHanded_of_change (C := Try.checked) own started (by kernel_rfl) Try.func14
   (ChangeSpec.witness6 (enc := enc) (C := Try.checked) false ⟨#[], #[.agg #[.slice none 0 0, .slice none 0 0], .agg #[.int .i64 0], .agg #[.int .i64 0, .slice none 0 0]], []⟩ 8 (by kernel_rfl) (by kernel_rfl) (by kernel_rfl) (by kernel_rfl)) ?_
 intro W base args ds gs before hval0 hW _ _
 have hval : ∀ (j : Nat) t v, Try.f14.params[j]? = some t → args[j]? = some v → Value.okWide Try.prog W .any base t v := hval0
 have hlt : ∀ x ∈ before, x.block < W.heap.size := fun x hx => hW.lt x hx
 have hW' := hW
 obtain ⟨p, q, hA0, hV, rfl, _, _⟩ := hW
 have hA : DataW.TrodAll enc Try.prog W 0 (fun _ => true) true Try.f14.params.toList args.toList ds p := hA0
 rw [Try.params14] at hA hval
 obtain ⟨v0, vs0, d0, ds0, p0, q0, hargs, rfl, rfl, h0, r0⟩ := trodAll_cons hA
 obtain ⟨v1, vs1, d1, ds1, p1, q1, rfl, rfl, rfl, h1, r1⟩ := trodAll_cons r0
 obtain ⟨v2, vs2, d2, ds2, p2, q2, rfl, rfl, rfl, h2, r2⟩ := trodAll_cons r1
 obtain ⟨rfl, rfl, rfl⟩ := trodAll_nil r2
 obtain rfl : args = #[v0, v1, v2] := by cases args; simp_all
 have hg : gs = [] := (trodVars_none hV).1
 subst hg
 suffices hwalk : Calls Try.prog 14 #[v0, v1, v2] W fun e W' => e = .returned (.bool true) ∧ Below W.heap.size W W' by
   refine hwalk.mono fun e W' ⟨he, hb⟩ => ?_
   subst he
   exact law_post (by kernel_rfl) rfl rfl hW' rfl hb
 obtain ⟨p, hp⟩ := open_pg (R := fun _ => True) (hval 0 25 v0 rfl rfl) h0 (fun _ _ => trivial)
 obtain ⟨sg, rfl⟩ := open_tg (hval 1 47 v1 rfl rfl) h1
 obtain ⟨l, hl, _⟩ := open_pd (R := fun _ => True) (hval 2 50 v2 rfl rfl) h2 (fun _ _ => trivial)
 exact walk _ _ v0 v2 p sg l W hp hl

theorem over : Rows.checkFactsRow.holds Try.pinned (OpenSpec.ofChange Rows.checkFactsSpec) :=
 OpenClaim.holds_of_wide 14 Try.f14 rfl rfl rfl rfl rfl rfl rfl ⟨rfl, rfl, rfl, rfl, rfl⟩ rfl rfl rfl rfl rfl (by kernel_rfl) Try.func14 (by kernel_rfl)
   (of_decide_eq_true (by kernel_rfl)) (by unfold Func.isWrapper; first | (rw [if_pos (by decide +kernel)]; kernel_rfl) | (rw [if_neg (by decide +kernel)]; exact ⟨rfl, rfl⟩))
   (fun os started H enc _ => lifted os started H enc)

theorem proved : Rows.CheckFactsSaid := over
#print axioms proved
end Go.Proofs.Ytodmkjeankbieab.checkFacts


