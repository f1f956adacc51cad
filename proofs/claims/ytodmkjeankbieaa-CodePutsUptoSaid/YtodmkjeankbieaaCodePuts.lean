/-
  CodePuts: for every places the program tells their bytes, or that they have none, as the reference's numbers say. Condition: what is read is of bulk at most 1048576.
-/
import Derived.Test.YtodmkjeankbieaaFrame
import Derived.Test.YtodmkjeankbieaaCodePut2
import Derived.Test.YtodmkjeankbieaaOpen
import Derived.JoinedCond
namespace Go.Proofs.Ytodmkjeankbieaa.codePuts
open Go.Sort Go.ChangeShapes Go.WideShapes Go.ChangeAt Go.RowKit Go.Joins

theorem nums_len (p : Pd) : (pdNums p).length ≤ 2 + 9 * pdWt p := by
  have : ∀ l : List Rw, (l.flatMap rwNums).length ≤ 9 * (l.map fun r => r.before.length + r.after.length + 1).sum := by
    intro l
    induction l with
    | nil => simp
    | cons r l ih =>
      rw [List.flatMap_cons, List.length_append, List.map_cons, List.sum_cons]
      have e : (rwNums r).length = 6 + (1 + 9 * r.before.length) + (1 + 9 * r.after.length) := by
        simp only [rwNums, List.length_append, mvs_len, List.length_cons, List.length_nil]
      omega
  unfold pdNums pdWt
  rw [List.length_cons, List.length_cons]
  have := this p.rows
  omega

set_option maxHeartbeats 1000000 in
set_option maxRecDepth 100000 in
theorem walk (v : Value) (p : Pd) (w : World) (h : RdPd w (fun b => b < w.heap.size) v p) (hb : (pdNums p).length * 8 ≤ 140737488355328) :
    Calls Try.prog 6 #[v] w fun e w' => e = .returned (.bool true) ∧ Below w.heap.size w w' := by
  obtain ⟨vr, l, rfl, hi, hr0, hp⟩ := id h
  obtain ⟨A, c, rfl, hl, hr, ho⟩ := id hr0
  have H := Lib.hid h
  clear h hr ho hr0 hp hi hl
  generalize l.length = ll at *
  go_enter Try.func6, Try.ntmps6
  go_wp2_with (first
    | (go_at_call 18
       refine (Put_any _ p _ ((H.out.kept ((Kept.refl (fun _ => False) w).alloc _) (fun _ _ h => h)).more (fun b hb => by simp; omega)) hb).mono ?_
       rintro e w1 ⟨vb, err, rfl, hf1, hcase⟩
       have hB1 := (Blk.new w _ _).kept hf1 (fun h => h)
       have q0 := hB1.cell 0
       have q1 := hB1.cell 1
       simp only [List.getElem?_toArray, List.getElem?_cons_succ, List.getElem?_cons_zero] at q0 q1
       have z1 := hf1.size
       simp only [World.size_alloc] at z1
       have HC := Lib.hid hcase
       clear hcase)
    | (go_at_call 19
       refine (refNumbers_any (fun b => b < w.heap.size) _ p _ ((H.out.kept ((Kept.refl (fun _ => False) w).alloc _) (fun _ _ h => h)).kept hf1 (fun _ _ h => h)) hb).mono ?_
       rintro e w2 ⟨v5, rfl, hown5, hf2⟩
       obtain ⟨A5, c5, rfl, hm5, hr5⟩ := own_reads hown5
       have z2 := hf2.size)
    | (go_at_call 20
       refine (refSmall_any _ _ _ _ _ hr5 hm5).mono ?_
       rintro e w3 ⟨rfl, rfl⟩
       rcases HC.out with ⟨hall, rfl, hob⟩ | ⟨hall, rfl, rfl⟩))
  · obtain ⟨Ab, cb, rfl, _, hrb⟩ := own_reads hob
    have hrb2 := hrb.kept hf2 (fun _ _ h => h)
    have hcv := fun d os => conv_bytes (P := Try.prog) (c := cb) Try.underlying35 Try.underlying5 Try.underlying9 (hrb2.kept (kept_of_regrown (S := fun _ => False) (w := w2) d os) (fun _ _ h => h))
    have hby := fun d os => refBytes_any _ A5 c5 (pdNums p) (grow (redrawn w2 d) os) (hr5.kept (kept_of_regrown (S := fun _ => False) (w := w2) d os) (fun _ _ h => h)) (by omega)
    have HBY := Lib.hid hby
    clear hby hrb hrb2 hob HC hr5 hown5 hm5 H
    refine wp_region_quiet_below (by kernel_rfl) (by kernel_rfl) ?_
    repeat (quiet_step (refine Calls.regrown_of ((HBY.out _ _).mono fun e w' h => ⟨h.1, h.2.below⟩)))
    refine wpQuiet_nil ?_
    intro _ hw2
    obtain ⟨pq, rfl⟩ := hw2
    go_wp2
    go_ret
    refine ⟨rfl, ?_⟩
    exact Fr.below (((((Kept.refl (fun _ => False) w).alloc _).trans hf1).trans hf2).trans (kept_of_regrown _ _))
  · go_wp2
    go_ret
    exact ⟨rfl, Fr.below ((((Kept.refl (fun _ => False) w).alloc _).trans hf1).trans hf2)⟩

set_option maxRecDepth 100000 in
theorem contract (H : Type) (enc : TypeId × Value → H) (W : World) (base : Nat) (args : Array Value) (ds gs : List (DataW H)) (before : List MemPlace)
    (hval0 : ∀ (j : Nat) t v, Try.f6.params[j]? = some t → args[j]? = some v → Value.okWide Try.prog W .any base t v)
    (hW : DataW.Whole enc Try.prog Try.f6.params.toList Rows.codePutsSpec.vars false W args.toList ds gs before) (hk : Rows.uptoSmall H (ds ++ gs) = true) :
    Calls Try.prog 6 args W fun e W' => ∃ v, e = .returned v ∧ Rows.codePutsSpec.post enc Try.prog Try.f6 false true false false W args v W' := by
  have hval : ∀ (j : Nat) t v, Try.f6.params[j]? = some t → args[j]? = some v → Value.okWide Try.prog W .any base t v := hval0
  have hlt : ∀ x ∈ before, x.block < W.heap.size := fun x hx => hW.lt x hx
  have hW' := hW
  obtain ⟨p, q, hA0, hV, rfl, _, _⟩ := hW
  have hA : DataW.TrodAll enc Try.prog W 0 (fun _ => true) true Try.f6.params.toList args.toList ds p := hA0
  rw [Try.params6] at hA hval
  obtain ⟨v0, vs0, d0, ds0, p0, q0, hargs, rfl, rfl, h0, r0⟩ := trodAll_cons hA
  obtain ⟨rfl, rfl, rfl⟩ := trodAll_nil r0
  obtain rfl : args = #[v0] := by cases args; simp_all
  have hg : gs = [] := (trodVars_none hV).1
  subst hg
  have hbulk := of_decide_eq_true hk
  clear hk
  simp only [Rows.uptoBulkAll, List.cons_append, List.nil_append] at hbulk
  suffices hwalk : Calls Try.prog 6 #[v0] W fun e W' => e = .returned (.bool true) ∧ Below W.heap.size W W' by
    refine hwalk.mono fun e W' ⟨he, hb⟩ => ?_
    subst he
    exact law_post (by kernel_rfl) rfl rfl hW' rfl hb
  obtain ⟨pd, hpd, hw⟩ := open_pd (R := fun b => b < W.heap.size) (hval 0 34 v0 rfl rfl) h0 (fun x hx => hlt x (by simp [hx]))
  have hn := nums_len pd
  exact walk v0 pd W hpd (by omega)

set_option maxRecDepth 100000 in
theorem lifted (os : Os) (started : os.Started) (H : Type) (enc : TypeId × Value → H) (F : Stop.Interp) :
    ReturnsInHanded {} Try.checked os 6 .any ((Rows.OpenSpec.upto Rows.codePutsSpec).pre6 enc Try.prog Try.f6 Rows.codePutsUptoRow.domain false) (((Rows.OpenSpec.upto Rows.codePutsSpec).at F).post enc Try.prog Try.f6 false true false false) := by
  refine returnsInHanded_of_cond (C := Try.checked) (s := Rows.OpenSpec.upto Rows.codePutsSpec) (k := Rows.uptoSmall) rfl own started (by kernel_rfl) Try.func6
    (OpenSpec.witness (enc := enc) (C := Try.checked) (s := Rows.OpenSpec.upto Rows.codePutsSpec) (k := Rows.uptoSmall) rfl false ⟨#[], #[.agg #[.int .i64 0, .slice none 0 0]], []⟩ 8 (by kernel_rfl) (by kernel_rfl) (by kernel_rfl)
      (x := ([.agg [.lit (.int .i64 0), .nil]], [], [])) (by kernel_rfl) rfl (by kernel_rfl)) ?_
  intro W base args ds gs before hval hW _ hk _
  exact contract H enc W base args ds gs before hval hW hk

theorem over : Rows.codePutsUptoRow.holds Try.pinned (Rows.OpenSpec.upto Rows.codePutsSpec) :=
  OpenClaim.holds_of_cond 6 Try.f6 rfl rfl rfl rfl rfl rfl rfl ⟨rfl, rfl, rfl, rfl, rfl⟩ rfl rfl rfl rfl rfl (by kernel_rfl) Try.func6 (by kernel_rfl)
    (of_decide_eq_true (by kernel_rfl)) (by unfold Func.isWrapper; first | (rw [if_pos (by decide +kernel)]; kernel_rfl) | (rw [if_neg (by decide +kernel)]; exact ⟨rfl, rfl⟩))
    (fun os started H enc _ F => lifted os started H enc F)

/-- the statement -/
theorem proved : Rows.CodePutsUptoSaid := over
#print axioms proved
end Go.Proofs.Ytodmkjeankbieaa.codePuts
