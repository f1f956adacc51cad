/- The walk of Machine.Go: over whatever does an instruction. -/
import Derived.Test.YtodmkjeankbieabRun
namespace Go.Proofs.Ytodmkjeankbieab
open Go.RowKit Go.Sort

theorem Mc.ended {w : World} {g B : Nat} {r : Sh} {vo : Value} (h : Mc w g B r vo) (hg : B ≤ g) : Mc (w.setCell ⟨g, 0, none⟩ (.int .i64 2)) g B ⟨r.pc, r.ins, r.out, r.steps, 2⟩ vo := by
  obtain ⟨how, A, c, hb, h1, h2, hr⟩ := h
  have hK : Kept (fun k => k = g) w (w.setCell ⟨g, 0, none⟩ (.int .i64 2)) := (Kept.refl (fun k => k = g) w).setCell (p := ⟨g, 0, none⟩) (fun _ => rfl) _
  exact ⟨own_kept how hK (fun k hk e => own_blk_ne how hb (by decide) (e ▸ hk)), A, c, hb.set_ 0 (.int .i64 2), h1, h2, hr.kept hK (fun b hb e => by omega)⟩

/-- how a loop of at most n steps leaves the machine -/
def GoPost {σ : Type} (g B n : Nat) (code : List In) (M : Mach σ) (x0 : Sh × σ) (I : World → Sh × σ → Prop) (w' : World) : Prop :=
  ∃ (w1 : World) (vo : Value), I w1 (mRun code M n x0) ∧ Mc w' g B (mRun code M n x0).1 vo ∧ Kept (fun k => k = g) w1 w'
theorem GoPost.of {σ : Type} {g B n : Nat} {code : List In} {M : Mach σ} {x0 x : Sh × σ} {I : World → Sh × σ → Prop} {w1 w' : World} {vo : Value} (hi : I w1 x) (he : x = mRun code M n x0) (hm : Mc w' g B x.1 vo) (hk : Kept (fun k => k = g) w1 w') :
    GoPost g B n code M x0 I w' := by subst he; exact ⟨w1, vo, hi, hm, hk⟩

set_option maxHeartbeats 1000000 in
set_option maxRecDepth 100000 in
theorem Go_any {σ : Type} (f : Nat) (hf : ∀ args w, Sem.run Try.prog (callFunc f args) w = .ok (.enter f args) w) (cap : Array Value) (g B n c : Nat) (A : Option Addr) (code : List In) (M : Mach σ) (x0 : Sh × σ) (I : World → Sh × σ → Prop)
    (hI : ∀ w x, I w x → ∃ vo, Mc w g B (unF x.1) vo)
    (hstep : ∀ w x, I w x → At code M x0 n x → x.1.state = 0 → x.1.steps < n → Calls Try.prog f (#[.int .i64 (x.1.pc : Int)] ++ cap) w fun e w' => e = .returned (.tuple #[]) ∧ I w' (mStep code M x))
    (w : World) (hg : B ≤ g) (hc : code.length ≤ 1000) (hn : n ≤ 100000) (h0 : I w x0) (hat : At code M x0 n x0) :
    Calls Try.prog 40 #[.pointer (some ⟨g, 0, none⟩), .slice A code.length c, .int .i64 (n : Int), .func (.func f) #[] cap] w fun e w' =>
      e = .returned (.tuple #[]) ∧ GoPost g B n code M x0 I w' := by
  have HS := Lib.hid hstep
  have H0 := Lib.hid h0
  have HA := Lib.hid hat
  clear hstep h0 hat
  go_enter Try.func40, Try.ntmps40
  go_wp2
  go_loopw [] (fun wr => ∃ x, Hid (I wr x) ∧ Hid (At code M x0 n x)) (fun wr => n - (match wr.cell? ⟨g, 2, none⟩ with | some v => (intOf v).toNat | none => 0))
  case atStart => exact ⟨x0, H0.out, HA.out⟩
  case round =>
    obtain ⟨x, hi, ha⟩ := hrel
    obtain ⟨vo, hM⟩ := hI _ _ hi.out
    obtain ⟨how, Ai, ci, hB, hl, hcm, hr⟩ := id hM
    have q0 := hB.cell 0
    have q2 := hB.cell 2
    have q3 := hB.cell 3
    have z0 := hB.lt
    have y0 := hB.frozen 0
    have hle := ha.out.le
    simp only [List.getElem?_toArray, List.getElem?_cons_succ, List.getElem?_cons_zero] at q0 q2 q3
    have HM := Lib.hid hM
    clear hM how hB hl hcm hr
    have e2 : (unF x.1).steps = x.1.steps := rfl
    have e3 : (unF x.1).pc = x.1.pc := rfl
    rw [e2] at q2
    rw [e3] at q3
    by_cases hst : x.1.state = 0
    · have e0 : (unF x.1).state = 0 := by unfold unF; simp [hst]
      rw [e0] at q0
      have hpc := ha.out.st0 hst
      have hp0 : (x.1.pc : Int) < (code.length : Int) := by omega
      by_cases hs : x.1.steps < n
      · have hs0 : (x.1.steps : Int) < (n : Int) := by omega
        have HX := Lib.hid (HS.out wr x hi.out ha.out hst hs)
        have HA2 := Lib.hid (ha.out.step hst hs)
        have hq2 := q2
        go_wp2_with fail
        refine HX.out.mono ?_
        rintro e w1 ⟨rfl, h1⟩
        obtain ⟨vo1, hM1⟩ := hI _ _ h1
        obtain ⟨_, A1, c1, hB1, _⟩ := hM1
        have r2 := hB1.cell 2
        simp only [List.getElem?_toArray, List.getElem?_cons_succ, List.getElem?_cons_zero] at r2
        rw [show (unF (mStep code M x).1).steps = x.1.steps + 1 from rfl] at r2
        go_wp2
        go_roundw
        case rel => exact ⟨_, h1, HA2.out⟩
        case measure =>
          rw [q2, r2]
          simp [intOf]
          omega
      · have hs0 : ¬ (x.1.steps : Int) < (n : Int) := by omega
        have hE := Lib.hid (ha.out.stop (Or.inr hs))
        have hSame := Lib.hid (ha.out.same (Or.inr hpc))
        go_wp2
        go_end0
        refine ⟨rfl, GoPost.of hi.out hE.out (vo := vo) ?_ (Kept.refl _ _)⟩
        have := HM.out
        rwa [hSame.out] at this
    · have hE := Lib.hid (ha.out.stop (Or.inl hst))
      by_cases h1 : x.1.state = 1
      · have e0 : (unF x.1).state = 1 := by unfold unF; simp [h1]
        have hSame := Lib.hid (ha.out.same (Or.inl (by rw [e0]; decide)))
        rw [e0] at q0
        go_wp2
        go_end0
        refine ⟨rfl, GoPost.of hi.out hE.out (vo := vo) ?_ (Kept.refl _ _)⟩
        have := HM.out
        rwa [hSame.out] at this
      · have h2 : x.1.state = 2 := by have := ha.out.st; omega
        have e0 : (unF x.1).state = 0 := by unfold unF; simp [h2]
        have hpc := ha.out.st2 h2
        have hp0 : ¬ (x.1.pc : Int) < (code.length : Int) := by omega
        have hEnd := Lib.hid (ha.out.ended e0 hpc)
        rw [e0] at q0
        go_wp2
        go_end0
        refine ⟨rfl, GoPost.of hi.out hE.out (vo := vo) ?_ ((Kept.refl (fun k => k = g) wr).setCell (p := ⟨g, 0, none⟩) (fun _ => rfl) _)⟩
        rw [hEnd.out]
        exact HM.out.ended hg
end Go.Proofs.Ytodmkjeankbieab
