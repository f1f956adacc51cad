/-
  CheckSound: what is taken does what the program does: for every program, target and places that the program takes, any ins and steps: in its places it shows what it shows. No condition.
-/
import Derived.Test.YtodmkjeankbieabKCheckSoundk2
import Derived.Test.YtodmkjeankbieabKCheckSoundk3
import Derived.Test.YtodmkjeankbieabKCheckSoundk10
import Derived.Test.YtodmkjeankbieabKCheckSoundk12
import Derived.Test.YtodmkjeankbieabKCheckSoundk18
namespace Go.Proofs.Ytodmkjeankbieab.checkSound
open Go.ChangeShapes Go.WideShapes Go.ChangeAt Go.RowKit Go.Joins

set_option maxHeartbeats 2000000 in
set_option maxRecDepth 100000 in
theorem walk (R R' : Nat → Prop) (v vl : Value) (p : Pg) (sg : Int) (l : Pd) (A : Option Addr) (ins : List Int) (c : Nat) (steps : Int) (w : World) (h : RdPg w R v p) (hL : RdPd w R' vl l) (hl : ins.length ≤ c) (hc : c ≤ maxLen) (hr : Reads w R 1 A ins.length (u32s ins)) (hi : ∀ n ∈ ins, 0 ≤ n ∧ n < 4294967296) :
    Calls Try.prog 9 #[v, tgV sg, vl, .slice A ins.length c, .int .i64 steps] w fun e w' => e = .returned (.bool true) ∧ Below w.heap.size w w' := by
  have H := Lib.hid h
  have HL := Lib.hid hL
  have HNO := Lib.hid (RdPg.numOk h)
  have HMO := Lib.hid (RdPd.mvsOk hL)
  obtain ⟨vw, vc, rfl, ⟨A1, c1, rfl, hl1, hr1⟩, ⟨A2, c2, rfl, hl2, hr2, ho2⟩⟩ := h
  obtain ⟨vr, lv, rfl, hsl, ⟨Al, cl, rfl, hlr, hrr, hor⟩, hrows⟩ := hL
  clear hr1 hr2 ho2 hrr hor hrows hsl
  have HRI := Lib.hid hr
  have HI := Lib.hid hi
  have HQ := Lib.hid (Q3.start w #[.slice A1 p.wide.length c1, .slice A2 p.code.length c2] #[.int .i64 sg] #[.int .i64 l.slots, .slice Al lv.length cl])
  have HTk := Lib.hid (fun w2 (hf : Fr w w2) => takes_any R R' _ _ p sg l w2 (H.out.kept hf (fun _ _ h => h)) (HL.out.kept hf (fun _ _ h => h)))
  have hc' := hc
  unfold maxLen at hc'
  have HMy := Lib.hid (fun w2 (hf : Fr w w2) => refPlaceMay_any R R' _ _ p sg l w2 (H.out.kept hf (fun _ _ h => h)) (HL.out.kept hf (fun _ _ h => h)))
  rw [← mayL_eq] at HMy
  have HWr := Lib.hid (fun w2 (hf : Fr w w2) => refWrong3_any R _ p A ins.length c steps w2 (H.out.kept hf (fun _ _ h => h)) (by omega))
  have HPl := Lib.hid (fun w2 (hf : Fr w w2) n (hm : mayB p = true) (hn40 : ins.length ≤ 40) (hn : n ≤ 3000) => refPlay_any R _ p A ins c n w2 (H.out.kept hf (fun _ _ h => h)) hm hn40 (HRI.out.kept hf (fun _ _ h => h)) HI.out hn)
  have HP7 := Lib.hid (fun w2 (hf : Fr w w2) n (hm : mayL p sg l = true) (hn40 : ins.length ≤ 40) (hn : n ≤ 3000) => refPlay7_any R R' _ _ p sg l A ins c n w2 (H.out.kept hf (fun _ _ h => h)) (HL.out.kept hf (fun _ _ h => h)) hm hn40 (HRI.out.kept hf (fun _ _ h => h)) HI.out hn)
  clear hr hi
  unfold tgV at HTk HMy HP7 ⊢
  go_enter Try.func9, Try.ntmps9
  go_wp2_with fail
  refine (HTk.out _ HQ.out.fr).mono ?_
  rintro e w1 ⟨b, rfl, hb, f1⟩
  have HQ1 := Lib.hid (HQ.out.keep f1)
  clear HTk HQ f1
  cases b with
  | false =>
    clear hb HMy HWr HPl HP7
    go_wp2_with fail
    refine (oneTakes w1).mono ?_
    rintro e w2 ⟨rfl, f2⟩
    have HF := Lib.hid (HQ1.out.fr.trans f2)
    clear f2
    go_wp2
    go_ret
    exact ⟨rfl, Fr.below HF.out⟩
  | true =>
    obtain ⟨hm, htk⟩ := hb.1 rfl
    have HM := Lib.hid hm
    have HT := Lib.hid htk
    obtain ⟨hmb, _⟩ := mayL_facts hm
    have HMB := Lib.hid hmb
    rw [hm] at HMy
    clear hm htk hb hmb
    have p0 := HQ1.out.b0.cell 0
    have p1 := HQ1.out.b0.cell 1
    have t0 := HQ1.out.b1.cell 0
    have l0 := HQ1.out.b2.cell 0
    have l1 := HQ1.out.b2.cell 1
    have z0 := HQ1.out.b0.lt
    have z1 := HQ1.out.b1.lt
    have z2 := HQ1.out.b2.lt
    simp only [List.getElem?_toArray, List.getElem?_cons_succ, List.getElem?_cons_zero] at p0 p1 t0 l0 l1
    go_wp2_with fail
    refine (HMy.out _ HQ1.out.fr).mono ?_
    rintro e w2 ⟨rfl, f2⟩
    have HQ2 := Lib.hid (HQ1.out.keep f2)
    clear HMy HQ1 f2 p0 p1 t0 l0 l1 z0 z1 z2
    have p0 := HQ2.out.b0.cell 0
    have p1 := HQ2.out.b0.cell 1
    have z0 := HQ2.out.b0.lt
    simp only [List.getElem?_toArray, List.getElem?_cons_succ, List.getElem?_cons_zero] at p0 p1
    go_wp2_with fail
    refine (HWr.out _ HQ2.out.fr).mono ?_
    rintro e w3 ⟨rfl, f3⟩
    have HQ3 := Lib.hid (HQ2.out.keep f3)
    clear HWr HQ2 f3 p0 p1 z0
    by_cases hw0 : wrongV p ins.length steps = 0
    · obtain ⟨_, hn40, hs0, hs3⟩ := wrong_0 hw0
      obtain ⟨n, rfl⟩ : ∃ n : Nat, steps = (n : Int) := ⟨steps.toNat, by omega⟩
      have HEq : Hid (shEq (runV p ins n) (doneV p l.rows ins n) = true) := by
        show _ = _
        rw [sound HM.out HNO.out HMO.out HT.out HI.out n]; simp [shEq]
      have HPA := Lib.hid (fun w2 (hf : Fr w w2) => HPl.out w2 hf n HMB.out hn40 (by omega))
      have HPB := Lib.hid (fun w2 (hf : Fr w w2) => HP7.out w2 hf n HM.out hn40 (by omega))
      rw [hw0]
      clear hw0 HPl HP7 HNO HMO HT
      generalize doneV p l.rows ins n = y at *
      generalize runV p ins n = x at *
      have p0 := HQ3.out.b0.cell 0
      have p1 := HQ3.out.b0.cell 1
      have z0 := HQ3.out.b0.lt
      simp only [List.getElem?_toArray, List.getElem?_cons_succ, List.getElem?_cons_zero] at p0 p1
      go_wp2_with fail
      refine (HPA.out _ HQ3.out.fr).mono ?_
      rintro e w4 ⟨v4, rfl, hsh4, f4⟩
      have HQ4 := Lib.hid (HQ3.out.keep f4)
      have HSH4 := Lib.hid hsh4
      obtain ⟨A9, c9, rfl, hl9, _⟩ := hsh4
      have HS5 := Lib.hid (Blk.new w4 28 #[.int .i64 (x.state : Int), .slice A9 x.out.length c9, .int .i64 (x.steps : Int)])
      have hk5 : Fr w4 (w4.alloc (.cells #[.int .i64 (x.state : Int), .slice A9 x.out.length c9, .int .i64 (x.steps : Int)] 28)) := (Kept.refl _ w4).alloc _
      have HQ5 := Lib.hid (HQ4.out.keep hk5)
      have HSH5 := Lib.hid (HSH4.out.kept hk5 (fun _ _ h => h))
      have p0 := HQ5.out.b0.cell 0
      have p1 := HQ5.out.b0.cell 1
      have t0 := HQ5.out.b1.cell 0
      have l0 := HQ5.out.b2.cell 0
      have l1 := HQ5.out.b2.cell 1
      have z0 := HQ4.out.b0.lt
      have z1 := HQ4.out.b1.lt
      have z2 := HQ4.out.b2.lt
      simp only [List.getElem?_toArray, List.getElem?_cons_succ, List.getElem?_cons_zero] at p0 p1 t0 l0 l1
      clear HQ3 HQ4 HSH4 f4 hk5 HPA
      go_wp2_with fail
      refine (HPB.out _ HQ5.out.fr).mono ?_
      rintro e w6 ⟨v6, rfl, hsh6, f6⟩
      have HS6 := Lib.hid (HS5.out.kept f6 (fun h => h))
      have HF6 := Lib.hid (HQ5.out.fr.trans f6)
      have HSH6 := Lib.hid (HSH5.out.kept f6 (fun _ _ h => h))
      have HSY6 := Lib.hid hsh6
      obtain ⟨A8, c8, rfl, hl8, _⟩ := hsh6
      have HB7 := Lib.hid (Blk.new w6 28 #[.int .i64 (y.state : Int), .slice A8 y.out.length c8, .int .i64 (y.steps : Int)])
      have HA7 := Lib.hid (HS6.out.alloc (.cells #[.int .i64 (y.state : Int), .slice A8 y.out.length c8, .int .i64 (y.steps : Int)] 28))
      have HF7 := Lib.hid (HF6.out.alloc (.cells #[.int .i64 (y.state : Int), .slice A8 y.out.length c8, .int .i64 (y.steps : Int)] 28))
      have hk7 : Fr w6 (w6.alloc (.cells #[.int .i64 (y.state : Int), .slice A8 y.out.length c8, .int .i64 (y.steps : Int)] 28)) := (Kept.refl _ w6).alloc _
      have HSame := Lib.hid (refShSame_any _ _ _ _ _ _ _ (HSH6.out.kept hk7 (fun _ _ h => h)) (HSY6.out.kept hk7 (fun _ _ h => h)))
      rw [HEq.out] at HSame
      have s0 := HA7.out.cell 0
      have s1 := HA7.out.cell 1
      have s2 := HA7.out.cell 2
      have t0 := HB7.out.cell 0
      have t1 := HB7.out.cell 1
      have t2 := HB7.out.cell 2
      have z4 := HA7.out.lt
      have z5 := HB7.out.lt
      simp only [List.getElem?_toArray, List.getElem?_cons_succ, List.getElem?_cons_zero] at s0 s1 s2 t0 t1 t2
      clear f6 hk7 p0 p1 l0 l1
      go_wp2_with fail
      refine HSame.out.mono ?_
      rintro e w8 ⟨rfl, f8⟩
      have HF8 := Lib.hid (HF7.out.trans f8)
      clear f8
      go_wp2
      go_ret
      exact ⟨rfl, Fr.below HF8.out⟩
    · have hne : (wrongV p ins.length steps != 0) = true := by simpa using hw0
      generalize wrongV p ins.length steps = wr at *
      clear hw0 HPl HP7
      go_wp2
      go_ret
      exact ⟨rfl, Fr.below HQ3.out.fr⟩
set_option maxRecDepth 100000 in
theorem lifted (os : Os) (started : os.Started) (H : Type) (enc : TypeId × Value → H) :
    ReturnsInHanded {} Try.checked os 9 .any (Rows.checkSoundSpec.pre6 enc Try.prog Try.f9 Rows.checkSoundRow.domain false) (Rows.checkSoundSpec.post enc Try.prog Try.f9 false true false false) := by
  refine returnsInHanded_of_change (C := Try.checked) own started (by kernel_rfl) Try.func9
    (ChangeSpec.witness6 (enc := enc) (C := Try.checked) false ⟨#[], #[.agg #[.slice none 0 0, .slice none 0 0], .agg #[.int .i64 0], .agg #[.int .i64 0, .slice none 0 0], .slice none 0 0, .int .i64 0], []⟩ 8 (by kernel_rfl) (by kernel_rfl) (by kernel_rfl) (by kernel_rfl)) ?_
  intro W base args ds gs before hval0 hW _ _
  have hval : ∀ (j : Nat) t v, Try.f9.params[j]? = some t → args[j]? = some v → Value.okWide Try.prog W .any base t v := hval0
  have hlt : ∀ x ∈ before, x.block < W.heap.size := fun x hx => hW.lt x hx
  have hW' := hW
  obtain ⟨p, q, hA0, hV, rfl, _, _⟩ := hW
  have hA : DataW.TrodAll enc Try.prog W 0 (fun _ => true) true Try.f9.params.toList args.toList ds p := hA0
  rw [Try.params9] at hA hval
  obtain ⟨v0, vs0, d0, ds0, p0, q0, hargs, rfl, rfl, h0, r0⟩ := trodAll_cons hA
  obtain ⟨v1, vs1, d1, ds1, p1, q1, rfl, rfl, rfl, h1, r1⟩ := trodAll_cons r0
  obtain ⟨v2, vs2, d2, ds2, p2, q2, rfl, rfl, rfl, h2, r2⟩ := trodAll_cons r1
  obtain ⟨v3, vs3, d3, ds3, p3, q3, rfl, rfl, rfl, h3, r3⟩ := trodAll_cons r2
  obtain ⟨v4, vs4, d4, ds4, p4, q4, rfl, rfl, rfl, h4, r4⟩ := trodAll_cons r3
  obtain ⟨rfl, rfl, rfl⟩ := trodAll_nil r4
  obtain rfl : args = #[v0, v1, v2, v3, v4] := by cases args; simp_all
  have hg : gs = [] := (trodVars_none hV).1
  subst hg
  suffices hwalk : Calls Try.prog 9 #[v0, v1, v2, v3, v4] W fun e W' => e = .returned (.bool true) ∧ Below W.heap.size W W' by
    refine hwalk.mono fun e W' ⟨he, hb⟩ => ?_
    subst he
    exact law_post (by kernel_rfl) rfl rfl hW' rfl hb
  obtain ⟨p, hp⟩ := open_pg (R := fun _ => True) (hval 0 25 v0 rfl rfl) h0 (fun _ _ => trivial)
  obtain ⟨sg, rfl⟩ := open_tg (hval 1 47 v1 rfl rfl) h1
  obtain ⟨l, hl, _⟩ := open_pd (R := fun _ => True) (hval 2 50 v2 rfl rfl) h2 (fun _ _ => trivial)
  obtain ⟨A, c, ins, rfl, hr, hi, h1', h2'⟩ := open_u32 (R := fun _ => True) (hval 3 26 v3 rfl rfl) h3 (fun _ _ => trivial)
  obtain ⟨steps, rfl, rfl, rfl, w2⟩ := open_int Try.underlying3 (hval 4 3 v4 rfl rfl) h4
  exact walk _ _ v0 v2 p sg l A ins c steps W hp hl h1' h2' hr hi

theorem over : Rows.checkSoundRow.holds Try.pinned (OpenSpec.ofChange Rows.checkSoundSpec) :=
  OpenClaim.holds_of_wide 9 Try.f9 rfl rfl rfl rfl rfl rfl rfl ⟨rfl, rfl, rfl, rfl, rfl⟩ rfl rfl rfl rfl rfl (by kernel_rfl) Try.func9 (by kernel_rfl)
    (of_decide_eq_true (by kernel_rfl)) (by unfold Func.isWrapper; first | (rw [if_pos (by decide +kernel)]; kernel_rfl) | (rw [if_neg (by decide +kernel)]; exact ⟨rfl, rfl⟩))
    (fun os started H enc _ => lifted os started H enc)

/-- the statement -/
theorem proved : Rows.CheckSoundSaid := over
#print axioms proved
end Go.Proofs.Ytodmkjeankbieab.checkSound
