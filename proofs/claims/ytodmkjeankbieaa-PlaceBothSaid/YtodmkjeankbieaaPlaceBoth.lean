/-
  PlaceBoth: of every two places the one overlaps the other if that overlaps it, each overlaps itself, and a single register overlaps just one double one. No condition.
-/
import Derived.Test.YtodmkjeankbieaaFrame
import Derived.Test.YtodmkjeankbieaaPlace1
import Derived.Lib.QuietBelow
namespace Go.Proofs.Ytodmkjeankbieaa.placeBoth
open Go.ChangeShapes Go.WideShapes Go.ChangeAt Go.RowKit Go.Joins

theorem bcell {W w1 : World} (hb : Below W.heap.size W w1) : ∀ b o, b < W.heap.size → w1.cell? ⟨b, o, none⟩ = W.cell? ⟨b, o, none⟩ :=
  fun b o h => hb.cell (p := ⟨b, o, none⟩) h

theorem ov_comm (a b c d : Int) : ov a b c d = ov c d a b := by
  unfold ov
  by_cases h1 : a = 2 ∧ c = 1
  · rw [if_pos h1, if_neg (by omega), if_pos (by omega)]
  · rw [if_neg h1]
    by_cases h2 : a = 1 ∧ c = 2
    · rw [if_pos h2, if_pos (by omega)]
    · rw [if_neg h2, if_neg (by omega), if_neg (by omega)]
      rw [decide_eq_decide]; omega
theorem ov_self (a b : Int) : ov a b a b = true := by
  unfold ov
  rw [if_neg (by omega), if_neg (by omega)]; simp
theorem ov_half (n k : Int) : ov 1 n 2 k = (k == n / 2) := by
  unfold ov
  rw [if_neg (by omega), if_pos (by omega)]
  rw [Bool.eq_iff_iff]; simp; omega

structure Six (w wr : World) (k1 n1 k2 n2 n : Int) : Prop where
  a0 : wr.cell? ⟨w.heap.size, 0, none⟩ = some (.int .i64 k1)
  a1 : wr.cell? ⟨w.heap.size, 1, none⟩ = some (.int .i64 n1)
  b0 : wr.cell? ⟨w.heap.size + 1, 0, none⟩ = some (.int .i64 k2)
  b1 : wr.cell? ⟨w.heap.size + 1, 1, none⟩ = some (.int .i64 n2)
  c0 : wr.cell? ⟨w.heap.size + 2, 0, none⟩ = some (.int .i64 1)
  c1 : wr.cell? ⟨w.heap.size + 2, 1, none⟩ = some (.int .i64 n)
  sz : w.heap.size + 2 < wr.heap.size
  bl : Below w.heap.size w wr
theorem Six.below {w wr w2 : World} {k1 n1 k2 n2 n : Int} (h : Six w wr k1 n1 k2 n2 n) (hb : Below wr.heap.size wr w2) : Six w w2 k1 n1 k2 n2 n := by
  have hs := h.sz
  have hz := hb.size
  exact ⟨(bcell hb _ _ (by omega)).trans h.a0, (bcell hb _ _ (by omega)).trans h.a1, (bcell hb _ _ (by omega)).trans h.b0, (bcell hb _ _ (by omega)).trans h.b1,
    (bcell hb _ _ (by omega)).trans h.c0, (bcell hb _ _ (by omega)).trans h.c1, by omega, h.bl.trans (hb.mono (by omega))⟩

set_option maxHeartbeats 1000000 in
set_option maxRecDepth 100000 in
theorem walk (k1 n1 k2 n2 n : Int) (h0 : 0 ≤ n) (h1 : n ≤ 255) (w : World) :
    Calls Try.prog 3 #[.agg #[.int .i64 k1, .int .i64 n1], .agg #[.int .i64 k2, .int .i64 n2], .int .u8 n] w fun e w' => e = .returned (.bool true) ∧ Below w.heap.size w w' := by
  go_enter Try.func3, Try.ntmps3
  go_wp2
  go_loopw [8] (fun i wr => ∃ k : Nat, k ≤ 130 ∧ i = .int .i64 k ∧ Six w wr k1 n1 k2 n2 n) (fun i _ => 130 - (intOf i).toNat)
  case atStart =>
    refine ⟨0, by omega, rfl, ?_, ?_, ?_, ?_, ?_, ?_, ?_, ?_⟩
    all_goals first | (go_simp; done) | (repeat (first | exact Below.refl _ _ | refine Below.alloc ?_ (by simp <;> omega) _))
  case round =>
    obtain ⟨k, hk, rfl, H⟩ := hrel
    obtain ⟨a0, a1, b0, b1, c0, c1, sz, bl⟩ := id H
    by_cases hlt : k < 130
    · have hov := ov_half n k
      go_wp2_with (go_at_call 13; refine (overlap_any _ _ _ _ _).mono ?_; rintro e w' ⟨rfl, hb⟩; have H2 := H.below hb; clear hb)
      go_roundw
      case rel => exact ⟨k + 1, by omega, by go_num, H2⟩
      case measure => simp [intOf]; omega
    · go_wp2
      have hself := ov_self k1 n1
      have hcomm := ov_comm k2 n2 k1 n1
      clear hk hlt
      have q0 := cell_regrown a0
      have q1 := cell_regrown a1
      have q2 := cell_regrown b0
      have q3 := cell_regrown b1
      refine wp_region_quiet_below (by kernel_rfl) (by kernel_rfl) ?_
      repeat (quiet_step (refine Calls.regrown_of (overlap_any _ _ _ _ _)))
      refine wpQuiet_nil ?_
      intro _ hw2
      obtain ⟨pq, rfl⟩ := hw2
      go_wp2
      go_ret
      exact ⟨rfl, bl.trans ((below_regrown wr _ _).mono (by omega))⟩
set_option maxRecDepth 100000 in
theorem lifted (os : Os) (started : os.Started) (H : Type) (enc : TypeId × Value → H) :
    ReturnsInHanded {} Try.checked os 3 .any (Rows.placeBothSpec.pre6 enc Try.prog Try.f3 Rows.placeBothRow.domain false) (Rows.placeBothSpec.post enc Try.prog Try.f3 false true false false) := by
  refine returnsInHanded_of_change (C := Try.checked) own started (by kernel_rfl) Try.func3
    (ChangeSpec.witness6 (enc := enc) (C := Try.checked) false ⟨#[], #[.agg #[.int .i64 0, .int .i64 0], .agg #[.int .i64 0, .int .i64 0], .int .u8 0], []⟩ 8 (by kernel_rfl) (by kernel_rfl) (by kernel_rfl) (by kernel_rfl)) ?_
  intro W base args ds gs before hval0 hW _ _
  have hval : ∀ (j : Nat) t v, Try.f3.params[j]? = some t → args[j]? = some v → Value.okWide Try.prog W .any base t v := hval0
  have hlt : ∀ x ∈ before, x.block < W.heap.size := fun x hx => hW.lt x hx
  have hW' := hW
  obtain ⟨p, q, hA0, hV, rfl, _, _⟩ := hW
  have hA : DataW.TrodAll enc Try.prog W 0 (fun _ => true) true Try.f3.params.toList args.toList ds p := hA0
  rw [Try.params3] at hA hval
  obtain ⟨v0, vs0, d0, ds0, p0, q0, hargs, rfl, rfl, h0, r0⟩ := trodAll_cons hA
  obtain ⟨v1, vs1, d1, ds1, p1, q1, rfl, rfl, rfl, h1, r1⟩ := trodAll_cons r0
  obtain ⟨v2, vs2, d2, ds2, p2, q2, rfl, rfl, rfl, h2, r2⟩ := trodAll_cons r1
  obtain ⟨rfl, rfl, rfl⟩ := trodAll_nil r2
  obtain rfl : args = #[v0, v1, v2] := by cases args; simp_all
  have hg : gs = [] := (trodVars_none hV).1
  subst hg
  suffices hwalk : Calls Try.prog 3 #[v0, v1, v2] W fun e W' => e = .returned (.bool true) ∧ Below W.heap.size W W' by
    refine hwalk.mono fun e W' ⟨he, hb⟩ => ?_
    subst he
    exact law_post (by kernel_rfl) rfl rfl hW' rfl hb
  obtain ⟨c00, c01, y00, y01, m0, rfl, rfl, rfl, f00, f01⟩ := open_agg2 Try.underlying23 (by kernel_rfl) (by kernel_rfl) (hval 0 23 v0 rfl rfl) h0
  obtain ⟨k1, e00, rfl, w00⟩ := DataW.trod_int Try.underlying3 f00
  obtain ⟨n1, e01, rfl, w01⟩ := DataW.trod_int Try.underlying3 f01
  simp at e00 e01
  subst e00 e01
  obtain ⟨c10, c11, y10, y11, m1, rfl, rfl, rfl, f10, f11⟩ := open_agg2 Try.underlying23 (by kernel_rfl) (by kernel_rfl) (hval 1 23 v1 rfl rfl) h1
  obtain ⟨k2, e10, rfl, w10⟩ := DataW.trod_int Try.underlying3 f10
  obtain ⟨n2, e11, rfl, w11⟩ := DataW.trod_int Try.underlying3 f11
  simp at e10 e11
  subst e10 e11
  obtain ⟨n, rfl, rfl, rfl, w2⟩ := open_int Try.underlying5 (hval 2 5 v2 rfl rfl) h2
  have b2 := bounds_u8 w2
  exact walk k1 n1 k2 n2 n (by omega) (by omega) W

theorem over : Rows.placeBothRow.holds Try.pinned (OpenSpec.ofChange Rows.placeBothSpec) :=
  OpenClaim.holds_of_wide 3 Try.f3 rfl rfl rfl rfl rfl rfl rfl ⟨rfl, rfl, rfl, rfl, rfl⟩ rfl rfl rfl rfl rfl (by kernel_rfl) Try.func3 (by kernel_rfl)
    (of_decide_eq_true (by kernel_rfl)) (by unfold Func.isWrapper; first | (rw [if_pos (by decide +kernel)]; kernel_rfl) | (rw [if_neg (by decide +kernel)]; exact ⟨rfl, rfl⟩))
    (fun os started H enc _ => lifted os started H enc)

/-- the statement -/
theorem proved : Rows.PlaceBothSaid := over
#print axioms proved
end Go.Proofs.Ytodmkjeankbieaa.placeBoth
