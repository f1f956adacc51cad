/-
  RunLonger: for every program and any ins: what comes out in few steps is the beginning of what comes out in more; and where it does not run any more in few, it ends just so in more. No condition.
-/
import Derived.Test.YtodmkjeankbieabFrame
import Derived.Test.YtodmkjeankbieabOpenU32
import Derived.Test.YtodmkjeankbieabRunRun
namespace Go.Proofs.Ytodmkjeankbieab.runLonger
open Go.ChangeShapes Go.WideShapes Go.ChangeAt Go.RowKit Go.Joins

theorem pre_at {a b : List Int} (h : a <+: b) {j : Nat} (hj : j < a.length) : b[j]? = a[j]? := by
  obtain ⟨c, rfl⟩ := h
  rw [List.getElem?_append_left hj]

set_option maxHeartbeats 2000000 in
set_option maxRecDepth 100000 in
theorem walk (R : Nat → Prop) (v : Value) (p : Pg) (A : Option Addr) (ins : List Int) (c : Nat) (few more : Int) (w : World) (h : RdPg w R v p) (hl : ins.length ≤ c) (hc : c ≤ maxLen) (hr : Reads w R 1 A ins.length (u32s ins)) (hi : ∀ n ∈ ins, 0 ≤ n ∧ n < 4294967296) :
    Calls Try.prog 4 #[v, .slice A ins.length c, .int .i64 few, .int .i64 more] w fun e w' => e = .returned (.bool true) ∧ Below w.heap.size w w' := by
  have H := Lib.hid h
  obtain ⟨vw, vc, rfl, ⟨A1, c1, rfl, hl1, hr1⟩, ⟨A2, c2, rfl, hl2, hr2, ho2⟩⟩ := h
  clear hr1 hr2 ho2
  have HRI := Lib.hid hr
  have HI := Lib.hid hi
  have B0 := Lib.hid (Blk.new w 25 #[.slice A1 p.wide.length c1, .slice A2 p.code.length c2])
  have F0 := Lib.hid (show Fr w (w.alloc (.cells #[.slice A1 p.wide.length c1, .slice A2 p.code.length c2] 25)) from (Kept.refl _ w).alloc _)
  have HRun := Lib.hid (fun steps w2 (hf : Fr w w2) => run_any R _ p A ins c steps w2 (H.out.kept hf (fun _ _ h => h)) hl hc (HRI.out.kept hf (fun _ _ h => h)) HI.out)
  clear hr hi
  by_cases hfm : more < few
  · go_enter Try.func4, Try.ntmps4
    go_wp2
    go_ret
    exact ⟨rfl, Fr.below F0.out⟩
  have hfm' : few ≤ more := by omega
  go_enter Try.func4, Try.ntmps4
  go_wp2_with fail
  refine (HRun.out few _ F0.out).mono ?_
  rintro e w1 ⟨f1, he⟩
  have HB1 := Lib.hid (B0.out.kept f1 (fun h => h))
  have HF1 := Lib.hid (F0.out.trans f1)
  clear f1
  obtain ⟨x, A9, c9, we, rfl, hwe⟩ : ∃ (x : Sh) (A9 : Option Addr) (c9 : Nat) (we : Int), e = .returned (.tuple #[.agg #[.int .i64 (x.state : Int), .slice A9 x.out.length c9, .int .i64 (x.steps : Int)], .int .i64 we]) ∧ ((we ≠ 0) ∨ (we = 0 ∧ wrongV p ins.length few = 0 ∧ x = runV p ins few.toNat ∧ RdSh w1 (fun b => True) (.agg #[.int .i64 (x.state : Int), .slice A9 x.out.length c9, .int .i64 (x.steps : Int)]) x)) := by
    rcases he with ⟨hwr, rfl⟩ | ⟨hwr, v1, rfl, hsh⟩
    · exact ⟨sh0 [], none, 0, _, rfl, Or.inl hwr⟩
    · obtain ⟨A9, c9, rfl, hl9, hr9⟩ := hsh
      exact ⟨_, A9, c9, 0, rfl, Or.inr ⟨rfl, hwr, rfl, ⟨A9, c9, rfl, hl9, hr9.more (fun _ _ => trivial)⟩⟩⟩
  have HWE := Lib.hid hwe
  clear hwe he
  have hkA : Fr w1 (w1.alloc (.cells #[.int .i64 (x.state : Int), .slice A9 x.out.length c9, .int .i64 (x.steps : Int)] 28)) := (Kept.refl _ w1).alloc _
  have HBA := Lib.hid (HB1.out.kept hkA (fun h => h))
  have HFA := Lib.hid (HF1.out.trans hkA)
  have HSA := Lib.hid (Blk.new w1 28 #[.int .i64 (x.state : Int), .slice A9 x.out.length c9, .int .i64 (x.steps : Int)])
  have c0 := HB1.out.cell 0
  have c1' := HB1.out.cell 1
  have z1 := HB1.out.lt
  have d0 := HBA.out.cell 0
  have d1 := HBA.out.cell 1
  have z2 := HBA.out.lt
  simp only [List.getElem?_toArray, List.getElem?_cons_succ, List.getElem?_cons_zero] at c0 c1' d0 d1
  clear hkA
  go_wp2_with fail
  refine (HRun.out more _ HFA.out).mono ?_
  rintro e w2 ⟨f2, he⟩
  have HF2 := Lib.hid (HFA.out.trans f2)
  have HS2 := Lib.hid (HSA.out.kept f2 (fun h => h))
  have HK2 := Lib.hid (show Fr w1 w2 from ((Kept.refl _ w1).alloc _).trans f2)
  clear f2
  obtain ⟨y, A8, c8, wf, rfl, hwf⟩ : ∃ (y : Sh) (A8 : Option Addr) (c8 : Nat) (wf : Int), e = .returned (.tuple #[.agg #[.int .i64 (y.state : Int), .slice A8 y.out.length c8, .int .i64 (y.steps : Int)], .int .i64 wf]) ∧ ((wf ≠ 0) ∨ (wf = 0 ∧ wrongV p ins.length more = 0 ∧ y = runV p ins more.toNat ∧ RdSh w2 (fun b => True) (.agg #[.int .i64 (y.state : Int), .slice A8 y.out.length c8, .int .i64 (y.steps : Int)]) y)) := by
    rcases he with ⟨hwr, rfl⟩ | ⟨hwr, v1, rfl, hsh⟩
    · exact ⟨sh0 [], none, 0, _, rfl, Or.inl hwr⟩
    · obtain ⟨A9, c9, rfl, hl9, hr9⟩ := hsh
      exact ⟨_, A9, c9, 0, rfl, Or.inr ⟨rfl, hwr, rfl, ⟨A9, c9, rfl, hl9, hr9.more (fun _ _ => trivial)⟩⟩⟩
  have HWF := Lib.hid hwf
  clear hwf he
  have hkB : Fr w2 (w2.alloc (.cells #[.int .i64 (y.state : Int), .slice A8 y.out.length c8, .int .i64 (y.steps : Int)] 28)) := (Kept.refl _ w2).alloc _
  have HSB := Lib.hid (HS2.out.kept hkB (fun h => h))
  have HFB := Lib.hid (HF2.out.trans hkB)
  have HTB := Lib.hid (Blk.new w2 28 #[.int .i64 (y.state : Int), .slice A8 y.out.length c8, .int .i64 (y.steps : Int)])
  have s0 := HSB.out.cell 0
  have s1 := HSB.out.cell 1
  have s2 := HSB.out.cell 2
  have t0 := HTB.out.cell 0
  have t1 := HTB.out.cell 1
  have t2 := HTB.out.cell 2
  have zs := HSB.out.lt
  have zt := HTB.out.lt
  simp only [List.getElem?_toArray, List.getElem?_cons_succ, List.getElem?_cons_zero] at s0 s1 s2 t0 t1 t2
  clear c0 c1' d0 d1
  rcases HWE.out with hne | ⟨rfl, hw1, hx, hsx⟩
  · have hne' : (we != 0) = true := by simpa using hne
    clear HWE HWF hne
    go_wp2
    go_ret
    exact ⟨rfl, Fr.below HFB.out⟩
  rcases HWF.out with hne | ⟨rfl, hw2, hy, hsy⟩
  · have hne' : (wf != 0) = true := by simpa using hne
    clear HWE HWF hne
    go_wp2
    go_ret
    exact ⟨rfl, Fr.below HFB.out⟩
  obtain ⟨_, _, q0, _⟩ := wrong_0 hw1
  obtain ⟨_, _, q1, _⟩ := wrong_0 hw2
  obtain ⟨k, rfl⟩ : ∃ k : Nat, few = (k : Int) := ⟨few.toNat, by omega⟩
  obtain ⟨m, rfl⟩ : ∃ m : Nat, more = (m : Int) := ⟨more.toNat, by omega⟩
  rw [Int.toNat_natCast] at hx hy
  have hrl := run_longer p ins (few := k) (more := m) (by omega)
  have hst := (run_longer p ins (few := m) (more := m) (by omega)).2.2.1
  rw [← hx, ← hy] at hrl
  rw [← hy] at hst
  obtain ⟨hpre, heq, hsk, hsr⟩ := hrl
  have hln := hpre.length_le
  obtain ⟨A7, c7, e7, hl7, hr7⟩ := hsx
  obtain ⟨A6, c6, e6, hl6, hr6⟩ := hsy
  simp only [Value.agg.injEq, Array.mk.injEq, List.cons.injEq, Value.slice.injEq, true_and, and_true] at e7 e6
  obtain ⟨rfl, rfl⟩ := e7
  obtain ⟨rfl, rfl⟩ := e6
  have HX := Lib.hid ((hr7.kept HK2.out (fun _ _ h => h)).kept hkB (fun _ _ h => h))
  have HY := Lib.hid (hr6.kept hkB (fun _ _ h => h))
  have HPRE := Lib.hid hpre
  clear hr7 hr6 hx hy hpre hkB HWE HWF hw1 hw2
  by_cases hs : x.state = 0
  · have hs0 : (x.state : Int) = 0 := by omega
    have hsk2 := hsr hs
    rw [hs0] at s0
    rw [hs0] at HSB
    have hlnI : (x.out.length : Int) ≤ (y.out.length : Int) := by omega
    clear heq hsr hs0
    go_wp2
    go_loopw [13] (fun i wr => ∃ j : Nat, i = .int .i64 j ∧ j ≤ x.out.length ∧ Hid (Blk wr w1.heap.size 28 #[.int .i64 0, .slice A9 x.out.length c9, .int .i64 (x.steps : Int)]) ∧ Hid (Blk wr w2.heap.size 28 #[.int .i64 (y.state : Int), .slice A8 y.out.length c8, .int .i64 (y.steps : Int)]) ∧ Hid (Fr w wr) ∧ Hid (Reads wr (fun _ => True) 1 A9 x.out.length (u32s x.out)) ∧ Hid (Reads wr (fun _ => True) 1 A8 y.out.length (u32s y.out))) (fun i _ => x.out.length - (intOf i).toNat)
    case atStart => exact ⟨0, rfl, by omega, HSB, HTB, HFB, HX, HY⟩
    case round =>
      obtain ⟨j, rfl, hj, hb0, hb1, hfr, hrx, hry⟩ := hrel
      clear s0 s1 s2 t0 t1 t2 zs zt
      have s0 := hb0.out.cell 0
      have s1 := hb0.out.cell 1
      have s2 := hb0.out.cell 2
      have t1 := hb1.out.cell 1
      have t2 := hb1.out.cell 2
      have zs := hb0.out.lt
      have zt := hb1.out.lt
      simp only [List.getElem?_toArray, List.getElem?_cons_succ, List.getElem?_cons_zero] at s0 s1 s2 t1 t2
      by_cases hlt : j < x.out.length
      · obtain ⟨b, off, rfl, _, hc0⟩ := hrx.out.2 (by omega)
        obtain ⟨b', off', rfl, _, hc1⟩ := hry.out.2 (by omega)
        have hx : x.out[j]? = some x.out[j] := List.getElem?_eq_getElem hlt
        have hy : y.out[j]? = some x.out[j] := by rw [pre_at HPRE.out hlt]; exact hx
        have d0 := hc0 j (.int .u32 x.out[j]) (by unfold u32s; rw [List.getElem?_map, hx]; rfl)
        have d1 := hc1 j (.int .u32 x.out[j]) (by unfold u32s; rw [List.getElem?_map, hy]; rfl)
        have hj0 : (0 : Int) ≤ (j : Int) := Int.natCast_nonneg _
        have hlj : (j : Int) < (x.out.length : Int) := by omega
        have hlj2 : (j : Int) < (y.out.length : Int) := by omega
        clear hc0 hc1 hx hy
        generalize x.out[j] = a at *
        go_wp2
        go_quiet (fail)
        go_wp2
        go_roundw
        case rel => exact ⟨j + 1, by go_num, by omega, hb0, hb1, Lib.hid (hfr.out.drewN nq), hrx, hry⟩
        case measure => simp [intOf]; omega
      · have e1 : (x.steps : Int) = (k : Int) := by omega
        have e2 : (y.steps : Int) ≤ (m : Int) := by omega
        go_wp2
        go_ret
        exact ⟨rfl, Fr.below hfr.out⟩
  · have he := heq hs
    subst he
    have hs0 : ((y.state : Int) != 0) = true := by simpa using hs
    clear heq hsr
    go_wp2
    go_loopw [13] (fun i wr => ∃ j : Nat, i = .int .i64 j ∧ j ≤ y.out.length ∧ Hid (Blk wr w1.heap.size 28 #[.int .i64 (y.state : Int), .slice A9 y.out.length c9, .int .i64 (y.steps : Int)]) ∧ Hid (Blk wr w2.heap.size 28 #[.int .i64 (y.state : Int), .slice A8 y.out.length c8, .int .i64 (y.steps : Int)]) ∧ Hid (Fr w wr) ∧ Hid (Reads wr (fun _ => True) 1 A9 y.out.length (u32s y.out)) ∧ Hid (Reads wr (fun _ => True) 1 A8 y.out.length (u32s y.out))) (fun i _ => y.out.length - (intOf i).toNat)
    case atStart => exact ⟨0, rfl, by omega, HSB, HTB, HFB, HX, HY⟩
    case round =>
      obtain ⟨j, rfl, hj, hb0, hb1, hfr, hrx, hry⟩ := hrel
      clear s0 s1 s2 t0 t1 t2 zs zt
      have s0 := hb0.out.cell 0
      have s1 := hb0.out.cell 1
      have s2 := hb0.out.cell 2
      have t1 := hb1.out.cell 1
      have t2 := hb1.out.cell 2
      have zs := hb0.out.lt
      have zt := hb1.out.lt
      simp only [List.getElem?_toArray, List.getElem?_cons_succ, List.getElem?_cons_zero] at s0 s1 s2 t1 t2
      by_cases hlt : j < y.out.length
      · obtain ⟨b, off, rfl, _, hc0⟩ := hrx.out.2 (by omega)
        obtain ⟨b', off', rfl, _, hc1⟩ := hry.out.2 (by omega)
        have hx : y.out[j]? = some y.out[j] := List.getElem?_eq_getElem hlt
        have hy : y.out[j]? = some y.out[j] := by rw [pre_at HPRE.out hlt]; exact hx
        have d0 := hc0 j (.int .u32 y.out[j]) (by unfold u32s; rw [List.getElem?_map, hx]; rfl)
        have d1 := hc1 j (.int .u32 y.out[j]) (by unfold u32s; rw [List.getElem?_map, hy]; rfl)
        have hj0 : (0 : Int) ≤ (j : Int) := Int.natCast_nonneg _
        have hlj : (j : Int) < (y.out.length : Int) := by omega
        have hlj2 : (j : Int) < (y.out.length : Int) := by omega
        clear hc0 hc1 hx hy
        generalize y.out[j] = a at *
        go_wp2
        go_quiet (fail)
        go_wp2
        go_roundw
        case rel => exact ⟨j + 1, by go_num, by omega, hb0, hb1, Lib.hid (hfr.out.drewN nq), hrx, hry⟩
        case measure => simp [intOf]; omega
      · have e1 : (y.steps : Int) ≤ (k : Int) := by omega
        have e2 : (y.steps : Int) ≤ (m : Int) := by omega
        go_wp2
        go_ret
        exact ⟨rfl, Fr.below hfr.out⟩
set_option maxRecDepth 100000 in
theorem lifted (os : Os) (started : os.Started) (H : Type) (enc : TypeId × Value → H) :
    ReturnsInHanded {} Try.checked os 4 .any (Rows.runLongerSpec.pre6 enc Try.prog Try.f4 Rows.runLongerRow.domain false) (Rows.runLongerSpec.post enc Try.prog Try.f4 false true false false) := by
  refine returnsInHanded_of_change (C := Try.checked) own started (by kernel_rfl) Try.func4
    (ChangeSpec.witness6 (enc := enc) (C := Try.checked) false ⟨#[], #[.agg #[.slice none 0 0, .slice none 0 0], .slice none 0 0, .int .i64 0, .int .i64 0], []⟩ 8 (by kernel_rfl) (by kernel_rfl) (by kernel_rfl) (by kernel_rfl)) ?_
  intro W base args ds gs before hval0 hW _ _
  have hval : ∀ (j : Nat) t v, Try.f4.params[j]? = some t → args[j]? = some v → Value.okWide Try.prog W .any base t v := hval0
  have hlt : ∀ x ∈ before, x.block < W.heap.size := fun x hx => hW.lt x hx
  have hW' := hW
  obtain ⟨p, q, hA0, hV, rfl, _, _⟩ := hW
  have hA : DataW.TrodAll enc Try.prog W 0 (fun _ => true) true Try.f4.params.toList args.toList ds p := hA0
  rw [Try.params4] at hA hval
  obtain ⟨v0, vs0, d0, ds0, p0, q0, hargs, rfl, rfl, h0, r0⟩ := trodAll_cons hA
  obtain ⟨v1, vs1, d1, ds1, p1, q1, rfl, rfl, rfl, h1, r1⟩ := trodAll_cons r0
  obtain ⟨v2, vs2, d2, ds2, p2, q2, rfl, rfl, rfl, h2, r2⟩ := trodAll_cons r1
  obtain ⟨v3, vs3, d3, ds3, p3, q3, rfl, rfl, rfl, h3, r3⟩ := trodAll_cons r2
  obtain ⟨rfl, rfl, rfl⟩ := trodAll_nil r3
  obtain rfl : args = #[v0, v1, v2, v3] := by cases args; simp_all
  have hg : gs = [] := (trodVars_none hV).1
  subst hg
  suffices hwalk : Calls Try.prog 4 #[v0, v1, v2, v3] W fun e W' => e = .returned (.bool true) ∧ Below W.heap.size W W' by
    refine hwalk.mono fun e W' ⟨he, hb⟩ => ?_
    subst he
    exact law_post (by kernel_rfl) rfl rfl hW' rfl hb
  obtain ⟨p, hp⟩ := open_pg (R := fun _ => True) (hval 0 25 v0 rfl rfl) h0 (fun _ _ => trivial)
  obtain ⟨A, c, ins, rfl, hr, hi, h1', h2'⟩ := open_u32 (R := fun _ => True) (hval 1 26 v1 rfl rfl) h1 (fun _ _ => trivial)
  obtain ⟨few, rfl, rfl, rfl, w2⟩ := open_int Try.underlying3 (hval 2 3 v2 rfl rfl) h2
  obtain ⟨more, rfl, rfl, rfl, w3⟩ := open_int Try.underlying3 (hval 3 3 v3 rfl rfl) h3
  exact walk _ v0 p A ins c few more W hp h1' h2' hr hi

theorem over : Rows.runLongerRow.holds Try.pinned (OpenSpec.ofChange Rows.runLongerSpec) :=
  OpenClaim.holds_of_wide 4 Try.f4 rfl rfl rfl rfl rfl rfl rfl ⟨rfl, rfl, rfl, rfl, rfl⟩ rfl rfl rfl rfl rfl (by kernel_rfl) Try.func4 (by kernel_rfl)
    (of_decide_eq_true (by kernel_rfl)) (by unfold Func.isWrapper; first | (rw [if_pos (by decide +kernel)]; kernel_rfl) | (rw [if_neg (by decide +kernel)]; exact ⟨rfl, rfl⟩))
    (fun os started H enc _ => lifted os started H enc)

/-- the statement -/
theorem proved : Rows.RunLongerSaid := over
#print axioms proved
end Go.Proofs.Ytodmkjeankbieab.runLonger
