/- The walks of the reference of chapter 3: Wrong, Gives, Next. -/
import Derived.Test.YtodmkjeankbieabRun
import Derived.Test.YtodmkjeankbieabLayout
import Derived.Test.YtodmkjeankbieabRefForm3
namespace Go.Proofs.Ytodmkjeankbieab
open Go.RowKit Go.Sort

set_option maxHeartbeats 1000000 in
set_option maxRecDepth 100000 in
theorem refWrong3_any (R : Nat → Prop) (v : Value) (p : Pg) (A : Option Addr) (n c : Nat) (steps : Int) (w : World) (h : RdPg w R v p) (hn : n ≤ 9223372036854775807) :
    Calls Try.prog 16 #[v, .slice A n c, .int .i64 steps] w fun e w' => e = .returned (.int .i64 (wrongV p n steps)) ∧ Fr w w' := by
  have H := Lib.hid h
  obtain ⟨vw, vc, rfl, ⟨A1, c1, rfl, hl, hr⟩, ⟨A', c', rfl, hl', hr', ho'⟩⟩ := h
  clear hr hr' ho' hl hl'
  have HM := Lib.hid (fun w2 (hf : Fr w w2) => refMay_any R _ p w2 (H.out.kept hf (fun _ _ h => h)))
  have HF0 := Lib.hid (show Fr w (w.alloc (.cells #[.slice A1 p.wide.length c1, .slice A' p.code.length c'] 25)) from (Kept.refl _ w).alloc _)
  go_enter Try.func16, Try.ntmps16
  go_wp2_with fail
  cases hm : mayB p with
  | false =>
    rw [hm] at HM
    have HW : Hid (wrongV p n steps = 2) := by show _ = _; unfold wrongV; rw [if_pos hm]
    clear hm
    refine (HM.out _ HF0.out).mono ?_
    rintro e w2 ⟨rfl, f2⟩
    have HF := Lib.hid (HF0.out.trans f2)
    clear f2
    go_wp2
    go_ret
    exact ⟨ret_i HW.out.symm, HF.out⟩
  | true =>
    rw [hm] at HM
    have HW : Hid (wrongV p n steps = if 40 < n then 1 else if steps < 0 ∨ 3000 < steps then 3 else 0) := by show _ = _; unfold wrongV; rw [if_neg (by rw [hm]; decide)]
    clear hm
    refine (HM.out _ HF0.out).mono ?_
    rintro e w2 ⟨rfl, f2⟩
    have HF := Lib.hid (HF0.out.trans f2)
    clear f2
    go_wp2
    all_goals go_ret
    all_goals refine ⟨ret_i ?_, HF.out⟩
    all_goals rw [HW.out]
    all_goals first
      | (rw [if_pos (by omega)]; done)
      | (rw [if_neg (by omega), if_pos (by omega)]; done)
      | (rw [if_neg (by omega), if_neg (by omega)]; done)

set_option maxHeartbeats 1000000 in
set_option maxRecDepth 100000 in
theorem refGives3_any (i : In) (a b x : Int) (w : World) (hk : known i.op = true) (hg : gvs i.op = true) (ha : 0 ≤ a ∧ a < 18446744073709551616) (hb : 0 ≤ b ∧ b < 18446744073709551616) (h5 : i.op = 5 → a < 4294967296 ∧ b < 4294967296)
    (hin : i.n < 4294967296) (hx : 0 ≤ x ∧ x < 4294967296) :
    Calls Try.prog 45 #[i.val, .int .u64 a, .int .u64 b, .int .u32 x] w fun e w' => e = .returned (.int .u64 (giveV i a b x)) ∧ Fr w w' := by
  obtain ⟨op, d, a1, b1, cc, n⟩ := i
  unfold In.val
  simp only at *
  obtain ⟨a0, a1'⟩ := ha
  obtain ⟨b0, b1'⟩ := hb
  obtain ⟨x0, x1⟩ := hx
  have HF := Lib.hid (show Fr w (w.alloc (.cells #[.int .i64 op, .int .i64 d, .int .i64 a1, .int .i64 b1, .int .i64 cc, .int .u32 n] 45)) from (Kept.refl _ w).alloc _)
  have H5 := Lib.hid h5
  clear h5
  rcases known_cases hk with h | h | h | h | h | h | h | h | h | h | ⟨h1, h2⟩ | ⟨h1, h2⟩
  case inr.inr.inr.inr.inr.inr.inr.inr.inr.inr.inl =>
    have e : ∀ k : Int, k ≤ 20 → (op == k) = false := fun k hk => by rw [beq_eq_false_iff_ne]; omega
    have e1 := e 1 (by omega)
    have e2 := e 2 (by omega)
    have e3 := e 3 (by omega)
    have e5' := e 5 (by omega)
    have e6 := e 6 (by omega)
    have e7 := e 7 (by omega)
    clear e hk hg
    have hnr := narrowOp_range (op - 20) (a % 4294967296) (b % 4294967296) (by omega) (by omega)
    have HV : Hid (giveV ⟨op, d, a1, b1, cc, n⟩ a b x = narrowOp (op - 20) (a % 4294967296) (b % 4294967296)) := by
      show _ = _
      unfold giveV
      simp only
      rw [if_neg (by omega), if_neg (by omega), if_neg (by omega), if_neg (by omega), if_neg (by omega), if_neg (by omega), if_neg (by omega)]
    have HNr := Lib.hid (fun w => refNarrow_any (op - 20) (a % 4294967296) (b % 4294967296) (by omega) (by omega) (by omega) (by omega) w)
    generalize hq : narrowOp (op - 20) (a % 4294967296) (b % 4294967296) = q at *
    clear hq
    go_enter Try.func45, Try.ntmps45
    go_wp2_with (go_at_call 83; refine (HNr.out _).mono ?_; rintro e w' ⟨rfl, rfl⟩)
    go_ret
    refine ⟨ret_i ?_, HF.out⟩
    rw [HV.out]
  case inr.inr.inr.inr.inr.inr.inr.inr.inr.inr.inr =>
    have e : ∀ k : Int, k ≤ 40 → (op == k) = false := fun k hk => by rw [beq_eq_false_iff_ne]; omega
    have e1 := e 1 (by omega)
    have e2 := e 2 (by omega)
    have e3 := e 3 (by omega)
    have e5' := e 5 (by omega)
    have e6 := e 6 (by omega)
    have e7 := e 7 (by omega)
    clear e hk hg
    have HV : Hid (giveV ⟨op, d, a1, b1, cc, n⟩ a b x = wideOp (op - 40) a b) := by
      show _ = _
      unfold giveV
      simp only
      rw [if_neg (by omega), if_neg (by omega), if_neg (by omega), if_neg (by omega), if_neg (by omega), if_neg (by omega), if_pos (by omega)]
    have HNr := Lib.hid (fun w => refWide_any (op - 40) a b (by omega) (by omega) (by omega) (by omega) w)
    go_enter Try.func45, Try.ntmps45
    go_wp2_with (go_at_call 82; refine (HNr.out _).mono ?_; rintro e w' ⟨rfl, rfl⟩)
    go_ret
    exact ⟨ret_i HV.out.symm, HF.out⟩
  all_goals subst h
  all_goals first
    | (exfalso; revert hg; decide)
    | skip
  all_goals clear hk hg
  case inr.inr.inr.inr.inl =>
    obtain ⟨g1, g2⟩ := H5.out rfl
    go_enter Try.func45, Try.ntmps45
    go_wp2
    go_ret
    exact ⟨rfl, HF.out⟩
  all_goals
    go_enter Try.func45, Try.ntmps45
    go_wp2
    go_ret
    exact ⟨rfl, HF.out⟩

theorem stV_10 {len pc : Nat} {i : In} {a : Int} (h : i.op = 10) : pcV i pc a = pc + 1 ∧ stV len i pc a = 1 := by
  unfold stV pcV; rw [if_neg (by omega), if_pos h]; exact ⟨rfl, rfl⟩
end Go.Proofs.Ytodmkjeankbieab
