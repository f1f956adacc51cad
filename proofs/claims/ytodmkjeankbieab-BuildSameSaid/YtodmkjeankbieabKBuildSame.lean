/-
  BuildSame: for every program and target that may be, any ins and steps: in the places that are made it shows what the program shows. No condition.
-/
import Derived.Test.YtodmkjeankbieabKBuildSamek2
import Derived.Test.YtodmkjeankbieabKBuildSamek3
import Derived.Test.YtodmkjeankbieabKBuildSamek10
import Derived.Test.YtodmkjeankbieabKBuildSamek12
import Derived.Test.YtodmkjeankbieabKBuildSamek18
import Derived.Test.YtodmkjeankbieabKBuildSamek25
namespace Go.Proofs.Ytodmkjeankbieab

/-- a program and a target, boxed -/
structure Q2 (w W : World) (c0 c1 : Array Value) : Prop where
  b0 : Blk W w.heap.size 25 c0
  b1 : Blk W (w.heap.size + 1) 47 c1
  fr : Fr w W
theorem Q2.keep {w W W2 : World} {c0 c1 : Array Value} (h : Q2 w W c0 c1) (hk : Fr W W2) : Q2 w W2 c0 c1 :=
  ⟨h.b0.kept hk (fun h => h), h.b1.kept hk (fun h => h), h.fr.trans hk⟩
theorem Q2.start (w : World) (c0 c1 : Array Value) : Q2 w ((w.alloc (.cells c0 25)).alloc (.cells c1 47)) c0 c1 := by
  refine ⟨(Blk.new w _ _).alloc _, ?_, ((Kept.refl _ w).alloc _).alloc _⟩
  have := Blk.new (w.alloc (.cells c0 25)) 47 c1
  simpa using this
end Go.Proofs.Ytodmkjeankbieab
namespace Go.Proofs.Ytodmkjeankbieab.buildSame
open Go.ChangeShapes Go.WideShapes Go.ChangeAt Go.RowKit Go.Joins

set_option maxHeartbeats 4000000 in
set_option maxRecDepth 100000 in
theorem walk (R : Nat → Prop) (v : Value) (p : Pg) (sg : Int) (A : Option Addr) (ins : List Int) (c : Nat) (steps : Int) (w : World) (h : RdPg w R v p) (hl : ins.length ≤ c) (hc : c ≤ maxLen) (hr : Reads w R 1 A ins.length (u32s ins)) (hi : ∀ n ∈ ins, 0 ≤ n ∧ n < 4294967296) :
    Calls Try.prog 12 #[v, tgV sg, .slice A ins.length c, .int .i64 steps] w fun e w' => e = .returned (.bool true) ∧ Below w.heap.size w w' := by
  have H := Lib.hid h
  have HNO := Lib.hid (RdPg.numOk h)
  obtain ⟨vw, vc, rfl, ⟨A1, c1, rfl, hl1, hr1⟩, ⟨A2, c2, rfl, hl2, hr2, ho2⟩⟩ := h
  clear hr1 hr2 ho2
  have HRI := Lib.hid hr
  have HI := Lib.hid hi
  have HQ := Lib.hid (Q2.start w #[.slice A1 p.wide.length c1, .slice A2 p.code.length c2] #[.int .i64 sg])
  have hc' := hc
  unfold maxLen at hc'
  have HMy := Lib.hid (fun w2 (hf : Fr w w2) => refMay_any R _ p w2 (H.out.kept hf (fun _ _ h => h)))
  have HTg := Lib.hid (fun w2 => refTarget_any sg w2)
  have HBu := Lib.hid (fun w2 (hf : Fr w w2) => build_any R _ p sg w2 (H.out.kept hf (fun _ _ h => h)))
  have HWr := Lib.hid (fun w2 (hf : Fr w w2) => refWrong3_any R _ p A ins.length c steps w2 (H.out.kept hf (fun _ _ h => h)) (by omega))
  have HPl := Lib.hid (fun w2 (hf : Fr w w2) n (hm : mayB p = true) (hn40 : ins.length ≤ 40) (hn : n ≤ 3000) => refPlay_any R _ p A ins c n w2 (H.out.kept hf (fun _ _ h => h)) hm hn40 (HRI.out.kept hf (fun _ _ h => h)) HI.out hn)
  clear hr hi
  unfold tgV at HTg HBu ⊢
  go_enter Try.func12, Try.ntmps12
  go_wp2_with fail
  refine (HMy.out _ HQ.out.fr).mono ?_
  rintro e w1 ⟨rfl, f1⟩
  have HQ1 := Lib.hid (HQ.out.keep f1)
  clear HMy HQ f1
  cases hm : mayB p with
  | false =>
    clear hm
    go_wp2
    go_ret
    exact ⟨rfl, Fr.below HQ1.out.fr⟩
  | true =>
    have HMB := Lib.hid (hm)
    clear hm
    have t0 := HQ1.out.b1.cell 0
    have z1 := HQ1.out.b1.lt
    simp only [List.getElem?_toArray, List.getElem?_cons_succ, List.getElem?_cons_zero] at t0
    go_wp2_with fail
    refine (HTg.out _).mono ?_
    rintro e w2 ⟨rfl, f2⟩
    have HQ2 := Lib.hid (HQ1.out.keep f2)
    clear HTg HQ1 f2 t0 z1
    cases ht : tgB sg with
    | false =>
      clear ht
      go_wp2
      go_ret
      exact ⟨rfl, Fr.below HQ2.out.fr⟩
    | true =>
      have HTB := Lib.hid ht
      clear ht
      have p0 := HQ2.out.b0.cell 0
      have p1 := HQ2.out.b0.cell 1
      have z0 := HQ2.out.b0.lt
      simp only [List.getElem?_toArray, List.getElem?_cons_succ, List.getElem?_cons_zero] at p0 p1
      go_wp2_with fail
      refine (HWr.out _ HQ2.out.fr).mono ?_
      rintro e w3 ⟨rfl, f3⟩
      have HQ3 := Lib.hid (HQ2.out.keep f3)
      clear HWr HQ2 f3 p0 p1 z0
      by_cases hw0 : wrongV p ins.length steps = 0
      · obtain ⟨_, hn40, hs0, hs3⟩ := wrong_0 hw0
        obtain ⟨n, rfl⟩ : ∃ n : Nat, steps = (n : Int) := ⟨steps.toNat, by omega⟩
        rw [hw0]
        clear hw0
        have p0 := HQ3.out.b0.cell 0
        have p1 := HQ3.out.b0.cell 1
        have t0 := HQ3.out.b1.cell 0
        have z0 := HQ3.out.b0.lt
        have z1 := HQ3.out.b1.lt
        simp only [List.getElem?_toArray, List.getElem?_cons_succ, List.getElem?_cons_zero] at p0 p1 t0
        go_wp2_with fail
        refine (HBu.out _ HQ3.out.fr).mono ?_
        rintro e w4 ⟨f4, hb4⟩
        rcases hb4 with ⟨hno, _⟩ | ⟨_, _, Ab, cb, rfl, hrd⟩
        · exfalso; rw [HMB.out, HTB.out] at hno; cases hno
        have HMO := Lib.hid (RdPd.mvsOk hrd)
        have HRD := Lib.hid hrd
        obtain ⟨hmL, htL⟩ := buildF_ok HMB.out HTB.out
        have HML := Lib.hid hmL
        have HTL := Lib.hid htL
        have hrw := Lib.hid (buildF_rows (p := p) (sg := sg))
        have HQ4 := Lib.hid (HQ3.out.keep f4)
        have hLB := Blk.new w4 50 #[.int .i64 (p.wide.length : Int), .slice Ab p.code.length cb]
        have f4a : Fr w4 (w4.alloc (.cells #[.int .i64 (p.wide.length : Int), .slice Ab p.code.length cb] 50)) := (Kept.refl _ w4).alloc _
        have HQ5 := Lib.hid (HQ4.out.keep f4a)
        have HRD5 := Lib.hid (HRD.out.kept f4a (fun _ _ h => h))
        obtain ⟨lb, hlb⟩ : ∃ lb : Nat, lb = w4.heap.size := ⟨_, rfl⟩
        obtain ⟨w5, hw5⟩ : ∃ w5 : World, w5 = w4.alloc (.cells #[.int .i64 (p.wide.length : Int), .slice Ab p.code.length cb] 50) := ⟨_, rfl⟩
        rw [← hw5] at hLB HQ5 HRD5
        rw [← hlb] at hLB
        have HLB := Lib.hid hLB
        have HW5 := Lib.hid hw5
        have HLE := Lib.hid hlb
        have HMy6 := Lib.hid (fun w2 (hf : Fr w5 w2) => refPlaceMay_any R _ _ _ p sg (buildF p sg) w2 (H.out.kept (HQ5.out.fr.trans hf) (fun _ _ h => h)) (HRD5.out.kept hf (fun _ _ h => h)))
        rw [← mayL_eq] at HMy6
        have HP7 := Lib.hid (fun w2 (hf : Fr w5 w2) n (hm : mayL p sg (buildF p sg) = true) (hn40 : ins.length ≤ 40) (hn : n ≤ 3000) => refPlay7_any R _ _ _ p sg (buildF p sg) A ins c n w2 (H.out.kept (HQ5.out.fr.trans hf) (fun _ _ h => h)) (HRD5.out.kept hf (fun _ _ h => h)) hm hn40 (HRI.out.kept (HQ5.out.fr.trans hf) (fun _ _ h => h)) HI.out hn)
        unfold tgV at HMy6 HP7
        rw [HML.out] at HMy6
        have HEq : Hid (shEq (runV p ins n) (doneV p (buildF p sg).rows ins n) = true) := by
          show _ = _
          rw [sound HML.out HNO.out HMO.out HTL.out HI.out n]; simp [shEq]
        have HPA := Lib.hid (fun w2 (hf : Fr w w2) => HPl.out w2 hf n HMB.out hn40 (by omega))
        have HPB := Lib.hid (fun w2 (hf : Fr w5 w2) => HP7.out w2 hf n HML.out hn40 (by omega))
        clear HBu HPl HP7 HNO HMO HTL HQ3 HQ4 HRD hrd hmL htL f4 f4a hLB hlb hw5 p0 p1 t0 z0 z1
        generalize doneV p (buildF p sg).rows ins n = y at *
        generalize runV p ins n = x at *
        have p0 := HQ5.out.b0.cell 0
        have p1 := HQ5.out.b0.cell 1
        have t0 := HQ5.out.b1.cell 0
        have z0 := HQ5.out.b0.lt
        have z1 := HQ5.out.b1.lt
        have l0 := HLB.out.cell 0
        have l1 := HLB.out.cell 1
        have z2 := HLB.out.lt
        simp only [List.getElem?_toArray, List.getElem?_cons_succ, List.getElem?_cons_zero] at p0 p1 t0 l0 l1
        rw [HLE.out] at l0 l1 z2
        rw [HW5.out] at p0 p1 t0 z0 z1 l0 l1 z2
        go_wp2_with fail
        rw [← HLE.out, ← HW5.out]
        refine (HMy6.out _ (Kept.refl _ w5)).mono ?_
        rintro e w6 ⟨rfl, f6⟩
        have HQ6 := Lib.hid (HQ5.out.keep f6)
        have HLB6 := Lib.hid (HLB.out.kept f6 (fun h => h))
        have HF6 := Lib.hid f6
        clear f6 HMy6 p0 p1 t0 z0 z1 l0 l1 z2
        have p0 := HQ6.out.b0.cell 0
        have p1 := HQ6.out.b0.cell 1
        have z0 := HQ6.out.b0.lt
        simp only [List.getElem?_toArray, List.getElem?_cons_succ, List.getElem?_cons_zero] at p0 p1
        go_wp2_with fail
        refine (HPA.out _ HQ6.out.fr).mono ?_
        rintro e w7 ⟨v4, rfl, hsh4, f7⟩
        have HSH4 := Lib.hid hsh4
        obtain ⟨A9, c9, rfl, hl9, _⟩ := hsh4
        have hs8 := Blk.new w7 28 #[.int .i64 (x.state : Int), .slice A9 x.out.length c9, .int .i64 (x.steps : Int)]
        have hk8 : Fr w7 (w7.alloc (.cells #[.int .i64 (x.state : Int), .slice A9 x.out.length c9, .int .i64 (x.steps : Int)] 28)) := (Kept.refl _ w7).alloc _
        obtain ⟨w8, hw8⟩ : ∃ w8 : World, w8 = w7.alloc (.cells #[.int .i64 (x.state : Int), .slice A9 x.out.length c9, .int .i64 (x.steps : Int)] 28) := ⟨_, rfl⟩
        rw [← hw8] at hs8 hk8
        obtain ⟨sb, hsb⟩ : ∃ sb : Nat, sb = w7.heap.size := ⟨_, rfl⟩
        rw [← hsb] at hs8
        have HS8 := Lib.hid hs8
        have HW8 := Lib.hid hw8
        have HSBE := Lib.hid hsb
        have HQ8 := Lib.hid (HQ6.out.keep (f7.trans hk8))
        have HLB8 := Lib.hid (HLB6.out.kept (f7.trans hk8) (fun h => h))
        have HF8 := Lib.hid (HF6.out.trans (f7.trans hk8))
        have HSH8 := Lib.hid (HSH4.out.kept hk8 (fun _ _ h => h))
        clear hs8 hk8 hw8 hsb f7 HQ6 HLB6 HF6 HSH4 HPA p0 p1 z0
        have p0 := HQ8.out.b0.cell 0
        have p1 := HQ8.out.b0.cell 1
        have t0 := HQ8.out.b1.cell 0
        have z0 := HQ8.out.b0.lt
        have z1 := HQ8.out.b1.lt
        have l0 := HLB8.out.cell 0
        have l1 := HLB8.out.cell 1
        have z2 := HLB8.out.lt
        simp only [List.getElem?_toArray, List.getElem?_cons_succ, List.getElem?_cons_zero] at p0 p1 t0 l0 l1
        rw [HW8.out] at p0 p1 t0 z0 z1 l0 l1 z2
        go_wp2_with fail
        rw [← HW8.out]
        refine (HPB.out _ HF8.out).mono ?_
        rintro e w9 ⟨v6, rfl, hsh6, f9⟩
        have HS9 := Lib.hid (HS8.out.kept f9 (fun h => h))
        have HFR := Lib.hid (HQ8.out.fr.trans f9)
        have HSH9 := Lib.hid (HSH8.out.kept f9 (fun _ _ h => h))
        have HSY9 := Lib.hid hsh6
        obtain ⟨A8, c8, rfl, hl8, _⟩ := hsh6
        have HB7 := Lib.hid (Blk.new w9 28 #[.int .i64 (y.state : Int), .slice A8 y.out.length c8, .int .i64 (y.steps : Int)])
        have HA7 := Lib.hid (HS9.out.alloc (.cells #[.int .i64 (y.state : Int), .slice A8 y.out.length c8, .int .i64 (y.steps : Int)] 28))
        have HF7 := Lib.hid (HFR.out.alloc (.cells #[.int .i64 (y.state : Int), .slice A8 y.out.length c8, .int .i64 (y.steps : Int)] 28))
        have hk7 : Fr w9 (w9.alloc (.cells #[.int .i64 (y.state : Int), .slice A8 y.out.length c8, .int .i64 (y.steps : Int)] 28)) := (Kept.refl _ w9).alloc _
        have HSame := Lib.hid (refShSame_any _ _ _ _ _ _ _ (HSH9.out.kept hk7 (fun _ _ h => h)) (HSY9.out.kept hk7 (fun _ _ h => h)))
        rw [HEq.out] at HSame
        have s0 := HS9.out.cell 0
        have s1 := HS9.out.cell 1
        have s2 := HS9.out.cell 2
        have z4 := HS9.out.lt
        simp only [List.getElem?_toArray, List.getElem?_cons_succ, List.getElem?_cons_zero] at s0 s1 s2
        clear f9 hk7 p0 p1 l0 l1 t0 z0 z1 z2
        rw [HSBE.out] at s0 s1 s2 z4
        go_wp2_with fail
        refine HSame.out.mono ?_
        rintro e w10 ⟨rfl, f10⟩
        have HF8 := Lib.hid (HF7.out.trans f10)
        clear f10
        go_wp2
        go_ret
        exact ⟨rfl, Fr.below HF8.out⟩
      · have hne : (wrongV p ins.length steps != 0) = true := by simpa using hw0
        generalize wrongV p ins.length steps = wr at *
        clear hw0 HPl
        go_wp2
        go_ret
        exact ⟨rfl, Fr.below HQ3.out.fr⟩
set_option maxRecDepth 100000 in
theorem lifted (os : Os) (started : os.Started) (H : Type) (enc : TypeId × Value → H) :
    ReturnsInHanded {} Try.checked os 12 .any (Rows.buildSameSpec.pre6 enc Try.prog Try.f12 Rows.buildSameRow.domain false) (Rows.buildSameSpec.post enc Try.prog Try.f12 false true false false) := by
  refine returnsInHanded_of_change (C := Try.checked) own started (by kernel_rfl) Try.func12
    (ChangeSpec.witness6 (enc := enc) (C := Try.checked) false ⟨#[], #[.agg #[.slice none 0 0, .slice none 0 0], .agg #[.int .i64 0], .slice none 0 0, .int .i64 0], []⟩ 8 (by kernel_rfl) (by kernel_rfl) (by kernel_rfl) (by kernel_rfl)) ?_
  intro W base args ds gs before hval0 hW _ _
  have hval : ∀ (j : Nat) t v, Try.f12.params[j]? = some t → args[j]? = some v → Value.okWide Try.prog W .any base t v := hval0
  have hlt : ∀ x ∈ before, x.block < W.heap.size := fun x hx => hW.lt x hx
  have hW' := hW
  obtain ⟨p, q, hA0, hV, rfl, _, _⟩ := hW
  have hA : DataW.TrodAll enc Try.prog W 0 (fun _ => true) true Try.f12.params.toList args.toList ds p := hA0
  rw [Try.params12] at hA hval
  obtain ⟨v0, vs0, d0, ds0, p0, q0, hargs, rfl, rfl, h0, r0⟩ := trodAll_cons hA
  obtain ⟨v1, vs1, d1, ds1, p1, q1, rfl, rfl, rfl, h1, r1⟩ := trodAll_cons r0
  obtain ⟨v2, vs2, d2, ds2, p2, q2, rfl, rfl, rfl, h2, r2⟩ := trodAll_cons r1
  obtain ⟨v3, vs3, d3, ds3, p3, q3, rfl, rfl, rfl, h3, r3⟩ := trodAll_cons r2
  obtain ⟨rfl, rfl, rfl⟩ := trodAll_nil r3
  obtain rfl : args = #[v0, v1, v2, v3] := by cases args; simp_all
  have hg : gs = [] := (trodVars_none hV).1
  subst hg
  suffices hwalk : Calls Try.prog 12 #[v0, v1, v2, v3] W fun e W' => e = .returned (.bool true) ∧ Below W.heap.size W W' by
    refine hwalk.mono fun e W' ⟨he, hb⟩ => ?_
    subst he
    exact law_post (by kernel_rfl) rfl rfl hW' rfl hb
  obtain ⟨p, hp⟩ := open_pg (R := fun _ => True) (hval 0 25 v0 rfl rfl) h0 (fun _ _ => trivial)
  obtain ⟨sg, rfl⟩ := open_tg (hval 1 47 v1 rfl rfl) h1
  obtain ⟨A, c, ins, rfl, hr, hi, h1', h2'⟩ := open_u32 (R := fun _ => True) (hval 2 26 v2 rfl rfl) h2 (fun _ _ => trivial)
  obtain ⟨steps, rfl, rfl, rfl, w2⟩ := open_int Try.underlying3 (hval 3 3 v3 rfl rfl) h3
  exact walk _ v0 p sg A ins c steps W hp h1' h2' hr hi

theorem over : Rows.buildSameRow.holds Try.pinned (OpenSpec.ofChange Rows.buildSameSpec) :=
  OpenClaim.holds_of_wide 12 Try.f12 rfl rfl rfl rfl rfl rfl rfl ⟨rfl, rfl, rfl, rfl, rfl⟩ rfl rfl rfl rfl rfl (by kernel_rfl) Try.func12 (by kernel_rfl)
    (of_decide_eq_true (by kernel_rfl)) (by unfold Func.isWrapper; first | (rw [if_pos (by decide +kernel)]; kernel_rfl) | (rw [if_neg (by decide +kernel)]; exact ⟨rfl, rfl⟩))
    (fun os started H enc _ => lifted os started H enc)

/-- the statement -/
theorem proved : Rows.BuildSameSaid := over
#print axioms proved
end Go.Proofs.Ytodmkjeankbieab.buildSame
