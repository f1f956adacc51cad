/-
  RunRuns: for every program, such as may not be among them, any ins and steps, the program tells how it runs, or what is wrong. No condition.
-/
import Derived.Test.YtodmkjeankbieabFrame
import Derived.Test.YtodmkjeankbieabOpenU32
import Derived.Test.YtodmkjeankbieabRefPlay
namespace Go.Proofs.Ytodmkjeankbieab.runRuns
open Go.ChangeShapes Go.WideShapes Go.ChangeAt Go.RowKit Go.Joins

set_option maxHeartbeats 2000000 in
set_option maxRecDepth 100000 in
theorem walk (R : Nat → Prop) (v : Value) (p : Pg) (A : Option Addr) (ins : List Int) (c : Nat) (steps : Int) (w : World) (h : RdPg w R v p) (hl : ins.length ≤ c) (hc : c ≤ maxLen) (hr : Reads w R 1 A ins.length (u32s ins)) (hi : ∀ n ∈ ins, 0 ≤ n ∧ n < 4294967296) :
    Calls Try.prog 3 #[v, .slice A ins.length c, .int .i64 steps] w fun e w' => e = .returned (.bool true) ∧ Below w.heap.size w w' := by
  have H := Lib.hid h
  obtain ⟨vw, vc, rfl, ⟨A1, c1, rfl, hl1, hr1⟩, ⟨A2, c2, rfl, hl2, hr2, ho2⟩⟩ := h
  clear hr1 hr2 ho2
  have HRI := Lib.hid hr
  have HI := Lib.hid hi
  have B0 := Lib.hid (Blk.new w 25 #[.slice A1 p.wide.length c1, .slice A2 p.code.length c2])
  have F0 := Lib.hid (show Fr w (w.alloc (.cells #[.slice A1 p.wide.length c1, .slice A2 p.code.length c2] 25)) from (Kept.refl _ w).alloc _)
  have HRun := Lib.hid (fun w2 (hf : Fr w w2) => run_any R _ p A ins c steps w2 (H.out.kept hf (fun _ _ h => h)) hl hc (HRI.out.kept hf (fun _ _ h => h)) HI.out)
  have hc' := hc
  unfold maxLen at hc'
  have HWr := Lib.hid (fun w2 (hf : Fr w w2) => refWrong3_any R _ p A ins.length c steps w2 (H.out.kept hf (fun _ _ h => h)) (by omega))
  clear hr hi
  go_enter Try.func3, Try.ntmps3
  go_wp2_with fail
  refine (HRun.out _ F0.out).mono ?_
  rintro e w1 ⟨f1, he⟩
  have HB1 := Lib.hid (B0.out.kept f1 (fun h => h))
  have HF1 := Lib.hid (F0.out.trans f1)
  have hs1 := (F0.out.trans f1).size
  have c0 := HB1.out.cell 0
  have c1' := HB1.out.cell 1
  have z1 := HB1.out.lt
  simp only [List.getElem?_toArray, List.getElem?_cons_succ, List.getElem?_cons_zero] at c0 c1'
  clear f1 HRun
  rcases he with ⟨hwr, rfl⟩ | ⟨hwr, v1, rfl, hsh⟩
  · generalize wrongV p ins.length steps = wr at *
    have hne : (wr != 0) = true := by simpa using hwr
    have HS1 := Lib.hid (Blk.new w1 28 #[.int .i64 0, .slice none 0 0, .int .i64 0])
    have HBS := Lib.hid (HB1.out.alloc (.cells #[.int .i64 0, .slice none 0 0, .int .i64 0] 28))
    have HFS := Lib.hid (HF1.out.alloc (.cells #[.int .i64 0, .slice none 0 0, .int .i64 0] 28))
    go_wp2_with fail
    refine (HWr.out _ HFS.out).mono ?_
    rintro e w2 ⟨rfl, f2⟩
    have hS2 := HS1.out.kept f2 (fun h => h)
    have s0 := hS2.cell 0
    have s1 := hS2.cell 1
    have s2 := hS2.cell 2
    have z2 := hS2.lt
    simp only [List.getElem?_toArray, List.getElem?_cons_succ, List.getElem?_cons_zero] at s0 s1 s2
    have HF2 := Lib.hid (HFS.out.trans f2)
    have HSame := Lib.hid (refShSame_any (fun _ => True) (fun _ => True) _ _ _ _ w2 (RdSh.zero w2 _) (RdSh.zero w2 _))
    rw [show shEq (sh0 []) (sh0 []) = true by decide] at HSame
    clear hS2 f2
    go_wp2_with fail
    refine HSame.out.mono ?_
    rintro e w3 ⟨rfl, f3⟩
    have HF3 := Lib.hid (HF2.out.trans f3)
    clear f3
    go_wp2
    go_ret
    exact ⟨rfl, Fr.below HF3.out⟩
  · obtain ⟨hm, hn40, hs0, hs3⟩ := wrong_0 hwr
    obtain ⟨n, rfl⟩ : ∃ n : Nat, steps = (n : Int) := ⟨steps.toNat, by omega⟩
    have hrun : Hid (RdSh w1 (fun b => w.heap.size ≤ b) v1 (runV p ins n)) := by
      obtain ⟨A9, c9, e9, hl9, hr9⟩ := hsh
      exact ⟨A9, c9, e9, hl9, hr9.more (fun b hb => by simp at hb; omega)⟩
    have HPlay := Lib.hid (fun w2 (hf : Fr w w2) => refPlay_any R _ p A ins c n w2 (H.out.kept hf (fun _ _ h => h)) hm hn40 (HRI.out.kept hf (fun _ _ h => h)) HI.out (by omega))
    obtain ⟨A9, c9, rfl, hl9, _⟩ := hsh
    rw [hwr] at HWr
    clear hwr hm
    have HS1 := Lib.hid (Blk.new w1 28 #[.int .i64 ((runV p ins (n : Int).toNat).state : Int), .slice A9 (runV p ins (n : Int).toNat).out.length c9, .int .i64 ((runV p ins (n : Int).toNat).steps : Int)])
    have HBS := Lib.hid (HB1.out.alloc (.cells #[.int .i64 ((runV p ins (n : Int).toNat).state : Int), .slice A9 (runV p ins (n : Int).toNat).out.length c9, .int .i64 ((runV p ins (n : Int).toNat).steps : Int)] 28))
    have HFS := Lib.hid (HF1.out.alloc (.cells #[.int .i64 ((runV p ins (n : Int).toNat).state : Int), .slice A9 (runV p ins (n : Int).toNat).out.length c9, .int .i64 ((runV p ins (n : Int).toNat).steps : Int)] 28))
    have HRN := Lib.hid (hrun.out.kept ((Kept.refl (fun _ => False) w1).alloc (.cells #[.int .i64 ((runV p ins (n : Int).toNat).state : Int), .slice A9 (runV p ins (n : Int).toNat).out.length c9, .int .i64 ((runV p ins (n : Int).toNat).steps : Int)] 28)) (fun _ _ h => h))
    rw [Int.toNat_natCast] at HS1 HBS HFS HRN hl9
    simp only [Int.toNat_natCast]
    have HEq : Hid (shEq (runV p ins n) (runV p ins n) = true) := by show _ = _; simp [shEq]
    generalize runV p ins n = x at *
    clear hrun
    go_wp2_with fail
    refine (HWr.out _ HFS.out).mono ?_
    rintro e w2 ⟨rfl, f2⟩
    have HB2 := Lib.hid (HBS.out.kept f2 (fun h => h))
    have HS2 := Lib.hid (HS1.out.kept f2 (fun h => h))
    have HF2 := Lib.hid (HFS.out.trans f2)
    have HRN2 := Lib.hid (HRN.out.kept f2 (fun _ _ h => h))
    have c0 := HB2.out.cell 0
    have c1' := HB2.out.cell 1
    have z2 := HB2.out.lt
    simp only [List.getElem?_toArray, List.getElem?_cons_succ, List.getElem?_cons_zero] at c0 c1'
    clear f2
    go_wp2_with fail
    refine (HPlay.out _ HF2.out).mono ?_
    rintro e w3 ⟨v3, rfl, hsh3, f3⟩
    have HS3 := Lib.hid (HS2.out.kept f3 (fun h => h))
    have HF3 := Lib.hid (HF2.out.trans f3)
    have HRN3 := Lib.hid (HRN2.out.kept f3 (fun _ _ h => h))
    have HSH3 := Lib.hid hsh3
    obtain ⟨A8, c8, rfl, hl8, _⟩ := hsh3
    have HB4 := Lib.hid (Blk.new w3 28 #[.int .i64 (x.state : Int), .slice A8 x.out.length c8, .int .i64 (x.steps : Int)])
    have HA4 := Lib.hid (HS3.out.alloc (.cells #[.int .i64 (x.state : Int), .slice A8 x.out.length c8, .int .i64 (x.steps : Int)] 28))
    have HF4 := Lib.hid (HF3.out.alloc (.cells #[.int .i64 (x.state : Int), .slice A8 x.out.length c8, .int .i64 (x.steps : Int)] 28))
    have hk4 : Fr w3 (w3.alloc (.cells #[.int .i64 (x.state : Int), .slice A8 x.out.length c8, .int .i64 (x.steps : Int)] 28)) := (Kept.refl _ w3).alloc _
    have HSame := Lib.hid (refShSame_any _ _ _ _ _ _ _ (HRN3.out.kept hk4 (fun _ _ h => h)) (HSH3.out.kept hk4 (fun _ _ h => h)))
    rw [HEq.out] at HSame
    have s0 := HA4.out.cell 0
    have s1 := HA4.out.cell 1
    have s2 := HA4.out.cell 2
    have t0 := HB4.out.cell 0
    have t1 := HB4.out.cell 1
    have t2 := HB4.out.cell 2
    have z4 := HA4.out.lt
    have z5 := HB4.out.lt
    simp only [List.getElem?_toArray, List.getElem?_cons_succ, List.getElem?_cons_zero] at s0 s1 s2 t0 t1 t2
    clear f3 hk4
    go_wp2_with fail
    refine HSame.out.mono ?_
    rintro e w5 ⟨rfl, f5⟩
    have HF5 := Lib.hid (HF4.out.trans f5)
    clear f5
    go_wp2
    go_ret
    exact ⟨rfl, Fr.below HF5.out⟩
set_option maxRecDepth 100000 in
theorem lifted (os : Os) (started : os.Started) (H : Type) (enc : TypeId × Value → H) :
    ReturnsInHanded {} Try.checked os 3 .any (Rows.runRunsSpec.pre6 enc Try.prog Try.f3 Rows.runRunsRow.domain false) (Rows.runRunsSpec.post enc Try.prog Try.f3 false true false false) := by
  refine returnsInHanded_of_change (C := Try.checked) own started (by kernel_rfl) Try.func3
    (ChangeSpec.witness6 (enc := enc) (C := Try.checked) false ⟨#[], #[.agg #[.slice none 0 0, .slice none 0 0], .slice none 0 0, .int .i64 0], []⟩ 8 (by kernel_rfl) (by kernel_rfl) (by kernel_rfl) (by kernel_rfl)) ?_
  intro W base args ds gs before hval0 hW _ _
  have hval : ∀ (j : Nat) t v, Try.f3.params[j]? = some t → args[j]? = some v → Value.okWide Try.prog W .any base t v := hval0
  have hlt : ∀ x ∈ before, x.block < W.heap.size := fun x hx => hW.lt x hx
  have hW' := hW
  obtain ⟨p, q, hA0, hV, rfl, _, _⟩ := hW
  have hA : DataW.TrodAll enc Try.prog W 0 (fun _ => true) true Try.f3.params.toList args.toList ds p := hA0
  rw [Try.params3] at hA hval
  obtain ⟨v0, vs0, d0, ds0, p0, q0, hargs, rfl, rfl, h0, r0⟩ := trodAll_cons hA
  obtain ⟨v1, vs1, d1, ds1, p1, q1, rfl, rfl, rfl, h1, r1⟩ := trodAll_cons r0
  obtain ⟨v2, vs2, d2, ds2, p2, q2, rfl, rfl, rfl, h2, r2⟩ := trodAll_cons r1
  obtain ⟨rfl, rfl, rfl⟩ := trodAll_nil r2
  obtain rfl : args = #[v0, v1, v2] := by cases args; simp_all
  have hg : gs = [] := (trodVars_none hV).1
  subst hg
  suffices hwalk : Calls Try.prog 3 #[v0, v1, v2] W fun e W' => e = .returned (.bool true) ∧ Below W.heap.size W W' by
    refine hwalk.mono fun e W' ⟨he, hb⟩ => ?_
    subst he
    exact law_post (by kernel_rfl) rfl rfl hW' rfl hb
  obtain ⟨p, hp⟩ := open_pg (R := fun _ => True) (hval 0 25 v0 rfl rfl) h0 (fun _ _ => trivial)
  obtain ⟨A, c, ins, rfl, hr, hi, h1', h2'⟩ := open_u32 (R := fun _ => True) (hval 1 26 v1 rfl rfl) h1 (fun _ _ => trivial)
  obtain ⟨steps, rfl, rfl, rfl, w2⟩ := open_int Try.underlying3 (hval 2 3 v2 rfl rfl) h2
  exact walk _ v0 p A ins c steps W hp h1' h2' hr hi

theorem over : Rows.runRunsRow.holds Try.pinned (OpenSpec.ofChange Rows.runRunsSpec) :=
  OpenClaim.holds_of_wide 3 Try.f3 rfl rfl rfl rfl rfl rfl rfl ⟨rfl, rfl, rfl, rfl, rfl⟩ rfl rfl rfl rfl rfl (by kernel_rfl) Try.func3 (by kernel_rfl)
    (of_decide_eq_true (by kernel_rfl)) (by unfold Func.isWrapper; first | (rw [if_pos (by decide +kernel)]; kernel_rfl) | (rw [if_neg (by decide +kernel)]; exact ⟨rfl, rfl⟩))
    (fun os started H enc _ => lifted os started H enc)

/-- the statement -/
theorem proved : Rows.RunRunsSaid := over
#print axioms proved
end Go.Proofs.Ytodmkjeankbieab.runRuns
