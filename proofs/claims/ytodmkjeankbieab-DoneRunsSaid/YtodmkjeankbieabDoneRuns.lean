/-
  DoneRuns: for every program, target and places, such as may not be among them, any ins and steps, the program tells how it runs there, or what is wrong. No condition.
-/
import Derived.Test.YtodmkjeankbieabFrame
import Derived.Test.YtodmkjeankbieabOpenU32
import Derived.Test.YtodmkjeankbieabOpenTg
import Derived.Test.YtodmkjeankbieabOpen
import Derived.Test.YtodmkjeankbieabRefPlay7
import Derived.Test.YtodmkjeankbieabRefWrong7
namespace Go.Proofs.Ytodmkjeankbieab.doneRuns
open Go.ChangeShapes Go.WideShapes Go.ChangeAt Go.RowKit Go.Joins

set_option maxHeartbeats 2000000 in
set_option maxRecDepth 100000 in
theorem walk (R R' : Nat → Prop) (v vl : Value) (p : Pg) (sg : Int) (l : Pd) (A : Option Addr) (ins : List Int) (c : Nat) (steps : Int) (w : World) (h : RdPg w R v p) (hL : RdPd w R' vl l) (hl : ins.length ≤ c) (hc : c ≤ maxLen) (hr : Reads w R 1 A ins.length (u32s ins)) (hi : ∀ n ∈ ins, 0 ≤ n ∧ n < 4294967296) :
    Calls Try.prog 7 #[v, tgV sg, vl, .slice A ins.length c, .int .i64 steps] w fun e w' => e = .returned (.bool true) ∧ Below w.heap.size w w' := by
  have H := Lib.hid h
  have HL := Lib.hid hL
  obtain ⟨vw, vc, rfl, ⟨A1, c1, rfl, hl1, hr1⟩, ⟨A2, c2, rfl, hl2, hr2, ho2⟩⟩ := h
  obtain ⟨vr, lv, rfl, hsl, ⟨Al, cl, rfl, hlr, hrr, hor⟩, hrows⟩ := hL
  clear hr1 hr2 ho2 hrr hor hrows hsl
  have HRI := Lib.hid hr
  have HI := Lib.hid hi
  have HQ := Lib.hid (Q3.start w #[.slice A1 p.wide.length c1, .slice A2 p.code.length c2] #[.int .i64 sg] #[.int .i64 l.slots, .slice Al lv.length cl])
  have HRun := Lib.hid (fun w2 (hf : Fr w w2) => done_any R R' _ _ p sg l A ins c steps w2 (H.out.kept hf (fun _ _ h => h)) (HL.out.kept hf (fun _ _ h => h)) hl hc (HRI.out.kept hf (fun _ _ h => h)) HI.out)
  have hc' := hc
  unfold maxLen at hc'
  have HWr := Lib.hid (fun w2 (hf : Fr w w2) => refWrong7_any R R' _ _ p sg l A ins.length c steps w2 (H.out.kept hf (fun _ _ h => h)) (HL.out.kept hf (fun _ _ h => h)) (by omega))
  have HPl := Lib.hid (fun w2 (hf : Fr w w2) n (hm : mayL p sg l = true) (hn40 : ins.length ≤ 40) (hn : n ≤ 3000) => refPlay7_any R R' _ _ p sg l A ins c n w2 (H.out.kept hf (fun _ _ h => h)) (HL.out.kept hf (fun _ _ h => h)) hm hn40 (HRI.out.kept hf (fun _ _ h => h)) HI.out hn)
  clear hr hi
  unfold tgV at HRun HWr HPl ⊢
  go_enter Try.func7, Try.ntmps7
  go_wp2_with fail
  refine (HRun.out _ HQ.out.fr).mono ?_
  rintro e w1 ⟨f1, he⟩
  have HQ1 := Lib.hid (HQ.out.keep f1)
  have hs1 := (HQ.out.keep f1).fr.size
  clear HRun HQ
  rcases he with ⟨hwr, rfl⟩ | ⟨hwr, v1, rfl, hsh⟩
  · clear HPl
    generalize dWrong p sg l ins.length steps = wr at *
    have hne : (wr != 0) = true := by simpa using hwr
    have HS1 := Lib.hid (Blk.new w1 28 #[.int .i64 0, .slice none 0 0, .int .i64 0])
    have HQS := Lib.hid (HQ1.out.keep ((Kept.refl (fun _ => False) w1).alloc (.cells #[.int .i64 0, .slice none 0 0, .int .i64 0] 28)))
    have p0 := HQS.out.b0.cell 0
    have p1 := HQS.out.b0.cell 1
    have t0 := HQS.out.b1.cell 0
    have l0 := HQS.out.b2.cell 0
    have l1 := HQS.out.b2.cell 1
    simp only [List.getElem?_toArray, List.getElem?_cons_succ, List.getElem?_cons_zero] at p0 p1 t0 l0 l1
    go_wp2_with fail
    refine (HWr.out _ HQS.out.fr).mono ?_
    rintro e w2 ⟨rfl, f2⟩
    have hS2 := HS1.out.kept f2 (fun h => h)
    have s0 := hS2.cell 0
    have s1 := hS2.cell 1
    have s2 := hS2.cell 2
    have z2 := hS2.lt
    simp only [List.getElem?_toArray, List.getElem?_cons_succ, List.getElem?_cons_zero] at s0 s1 s2
    have HF2 := Lib.hid (HQS.out.fr.trans f2)
    have HSame := Lib.hid (refShSame_any (fun _ => True) (fun _ => True) _ _ _ _ w2 (RdSh.zero w2 _) (RdSh.zero w2 _))
    rw [show shEq (sh0 []) (sh0 []) = true by decide] at HSame
    clear hS2 f2
    go_wp2_with fail
    refine HSame.out.mono ?_
    rintro e w3 ⟨rfl, f3⟩
    have HF3 := Lib.hid (HF2.out.trans f3)
    clear f3
    go_wp2
    go_ret
    exact ⟨rfl, Fr.below HF3.out⟩
  · obtain ⟨hm, hwV⟩ := dWrong_0 hwr
    obtain ⟨_, hn40, hs0, hs3⟩ := wrong_0 hwV
    obtain ⟨n, rfl⟩ : ∃ n : Nat, steps = (n : Int) := ⟨steps.toNat, by omega⟩
    have hrun : Hid (RdSh w1 (fun b => w.heap.size ≤ b) v1 (doneV p l.rows ins n)) := by
      obtain ⟨A9, c9, e9, hl9, hr9⟩ := hsh
      exact ⟨A9, c9, e9, hl9, hr9.more (fun b hb => by simp at hb; omega)⟩
    have HPlay := Lib.hid (fun w2 (hf : Fr w w2) => HPl.out w2 hf n hm hn40 (by omega))
    obtain ⟨A9, c9, rfl, hl9, _⟩ := hsh
    rw [hwr] at HWr
    clear hwr hm hwV HPl
    rw [Int.toNat_natCast] at hl9
    simp only [Int.toNat_natCast]
    have HEq : Hid (shEq (doneV p l.rows ins n) (doneV p l.rows ins n) = true) := by show _ = _; simp [shEq]
    rw [Int.toNat_natCast] at hrun
    generalize doneV p l.rows ins n = x at *
    have HS1 := Lib.hid (Blk.new w1 28 #[.int .i64 (x.state : Int), .slice A9 x.out.length c9, .int .i64 (x.steps : Int)])
    have HQS := Lib.hid (HQ1.out.keep ((Kept.refl (fun _ => False) w1).alloc (.cells #[.int .i64 (x.state : Int), .slice A9 x.out.length c9, .int .i64 (x.steps : Int)] 28)))
    have HRN := Lib.hid (hrun.out.kept ((Kept.refl (fun _ => False) w1).alloc (.cells #[.int .i64 (x.state : Int), .slice A9 x.out.length c9, .int .i64 (x.steps : Int)] 28)) (fun _ _ h => h))
    have p0 := HQS.out.b0.cell 0
    have p1 := HQS.out.b0.cell 1
    have t0 := HQS.out.b1.cell 0
    have l0 := HQS.out.b2.cell 0
    have l1 := HQS.out.b2.cell 1
    simp only [List.getElem?_toArray, List.getElem?_cons_succ, List.getElem?_cons_zero] at p0 p1 t0 l0 l1
    clear hrun
    go_wp2_with fail
    refine (HWr.out _ HQS.out.fr).mono ?_
    rintro e w2 ⟨rfl, f2⟩
    have HQ2 := Lib.hid (HQS.out.keep f2)
    have HS2 := Lib.hid (HS1.out.kept f2 (fun h => h))
    have HRN2 := Lib.hid (HRN.out.kept f2 (fun _ _ h => h))
    have p0 := HQ2.out.b0.cell 0
    have p1 := HQ2.out.b0.cell 1
    have t0 := HQ2.out.b1.cell 0
    have l0 := HQ2.out.b2.cell 0
    have l1 := HQ2.out.b2.cell 1
    have z0 := HQ2.out.b0.lt
    have z1 := HQ2.out.b1.lt
    have z2 := HQ2.out.b2.lt
    simp only [List.getElem?_toArray, List.getElem?_cons_succ, List.getElem?_cons_zero] at p0 p1 t0 l0 l1
    clear f2
    go_wp2_with fail
    refine (HPlay.out _ HQ2.out.fr).mono ?_
    rintro e w3 ⟨v3, rfl, hsh3, f3⟩
    have HS3 := Lib.hid (HS2.out.kept f3 (fun h => h))
    have HF3 := Lib.hid (HQ2.out.fr.trans f3)
    have HRN3 := Lib.hid (HRN2.out.kept f3 (fun _ _ h => h))
    have HSH3 := Lib.hid hsh3
    obtain ⟨A8, c8, rfl, hl8, _⟩ := hsh3
    have HB4 := Lib.hid (Blk.new w3 28 #[.int .i64 (x.state : Int), .slice A8 x.out.length c8, .int .i64 (x.steps : Int)])
    have HA4 := Lib.hid (HS3.out.alloc (.cells #[.int .i64 (x.state : Int), .slice A8 x.out.length c8, .int .i64 (x.steps : Int)] 28))
    have HF4 := Lib.hid (HF3.out.alloc (.cells #[.int .i64 (x.state : Int), .slice A8 x.out.length c8, .int .i64 (x.steps : Int)] 28))
    have hk4 : Fr w3 (w3.alloc (.cells #[.int .i64 (x.state : Int), .slice A8 x.out.length c8, .int .i64 (x.steps : Int)] 28)) := (Kept.refl _ w3).alloc _
    have HSame := Lib.hid (refShSame_any _ _ _ _ _ _ _ (HRN3.out.kept hk4 (fun _ _ h => h)) (HSH3.out.kept hk4 (fun _ _ h => h)))
    rw [HEq.out] at HSame
    have s0 := HA4.out.cell 0
    have s1 := HA4.out.cell 1
    have s2 := HA4.out.cell 2
    have t0 := HB4.out.cell 0
    have t1 := HB4.out.cell 1
    have t2 := HB4.out.cell 2
    have z4 := HA4.out.lt
    have z5 := HB4.out.lt
    simp only [List.getElem?_toArray, List.getElem?_cons_succ, List.getElem?_cons_zero] at s0 s1 s2 t0 t1 t2
    clear f3 hk4
    go_wp2_with fail
    refine HSame.out.mono ?_
    rintro e w5 ⟨rfl, f5⟩
    have HF5 := Lib.hid (HF4.out.trans f5)
    clear f5
    go_wp2
    go_ret
    exact ⟨rfl, Fr.below HF5.out⟩
set_option maxRecDepth 100000 in
theorem lifted (os : Os) (started : os.Started) (H : Type) (enc : TypeId × Value → H) :
    ReturnsInHanded {} Try.checked os 7 .any (Rows.doneRunsSpec.pre6 enc Try.prog Try.f7 Rows.doneRunsRow.domain false) (Rows.doneRunsSpec.post enc Try.prog Try.f7 false true false false) := by
  refine returnsInHanded_of_change (C := Try.checked) own started (by kernel_rfl) Try.func7
    (ChangeSpec.witness6 (enc := enc) (C := Try.checked) false ⟨#[], #[.agg #[.slice none 0 0, .slice none 0 0], .agg #[.int .i64 0], .agg #[.int .i64 0, .slice none 0 0], .slice none 0 0, .int .i64 0], []⟩ 8 (by kernel_rfl) (by kernel_rfl) (by kernel_rfl) (by kernel_rfl)) ?_
  intro W base args ds gs before hval0 hW _ _
  have hval : ∀ (j : Nat) t v, Try.f7.params[j]? = some t → args[j]? = some v → Value.okWide Try.prog W .any base t v := hval0
  have hlt : ∀ x ∈ before, x.block < W.heap.size := fun x hx => hW.lt x hx
  have hW' := hW
  obtain ⟨p, q, hA0, hV, rfl, _, _⟩ := hW
  have hA : DataW.TrodAll enc Try.prog W 0 (fun _ => true) true Try.f7.params.toList args.toList ds p := hA0
  rw [Try.params7] at hA hval
  obtain ⟨v0, vs0, d0, ds0, p0, q0, hargs, rfl, rfl, h0, r0⟩ := trodAll_cons hA
  obtain ⟨v1, vs1, d1, ds1, p1, q1, rfl, rfl, rfl, h1, r1⟩ := trodAll_cons r0
  obtain ⟨v2, vs2, d2, ds2, p2, q2, rfl, rfl, rfl, h2, r2⟩ := trodAll_cons r1
  obtain ⟨v3, vs3, d3, ds3, p3, q3, rfl, rfl, rfl, h3, r3⟩ := trodAll_cons r2
  obtain ⟨v4, vs4, d4, ds4, p4, q4, rfl, rfl, rfl, h4, r4⟩ := trodAll_cons r3
  obtain ⟨rfl, rfl, rfl⟩ := trodAll_nil r4
  obtain rfl : args = #[v0, v1, v2, v3, v4] := by cases args; simp_all
  have hg : gs = [] := (trodVars_none hV).1
  subst hg
  suffices hwalk : Calls Try.prog 7 #[v0, v1, v2, v3, v4] W fun e W' => e = .returned (.bool true) ∧ Below W.heap.size W W' by
    refine hwalk.mono fun e W' ⟨he, hb⟩ => ?_
    subst he
    exact law_post (by kernel_rfl) rfl rfl hW' rfl hb
  obtain ⟨p, hp⟩ := open_pg (R := fun _ => True) (hval 0 25 v0 rfl rfl) h0 (fun _ _ => trivial)
  obtain ⟨sg, rfl⟩ := open_tg (hval 1 47 v1 rfl rfl) h1
  obtain ⟨l, hl, _⟩ := open_pd (R := fun _ => True) (hval 2 50 v2 rfl rfl) h2 (fun _ _ => trivial)
  obtain ⟨A, c, ins, rfl, hr, hi, h1', h2'⟩ := open_u32 (R := fun _ => True) (hval 3 26 v3 rfl rfl) h3 (fun _ _ => trivial)
  obtain ⟨steps, rfl, rfl, rfl, w2⟩ := open_int Try.underlying3 (hval 4 3 v4 rfl rfl) h4
  exact walk _ _ v0 v2 p sg l A ins c steps W hp hl h1' h2' hr hi

theorem over : Rows.doneRunsRow.holds Try.pinned (OpenSpec.ofChange Rows.doneRunsSpec) :=
  OpenClaim.holds_of_wide 7 Try.f7 rfl rfl rfl rfl rfl rfl rfl ⟨rfl, rfl, rfl, rfl, rfl⟩ rfl rfl rfl rfl rfl (by kernel_rfl) Try.func7 (by kernel_rfl)
    (of_decide_eq_true (by kernel_rfl)) (by unfold Func.isWrapper; first | (rw [if_pos (by decide +kernel)]; kernel_rfl) | (rw [if_neg (by decide +kernel)]; exact ⟨rfl, rfl⟩))
    (fun os started H enc _ => lifted os started H enc)

/-- the statement -/
theorem proved : Rows.DoneRunsSaid := over
#print axioms proved
end Go.Proofs.Ytodmkjeankbieab.doneRuns
