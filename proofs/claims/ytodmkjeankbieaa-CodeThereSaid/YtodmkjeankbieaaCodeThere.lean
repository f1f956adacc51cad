/-
  CodeThere: for every bytes that are places: these have just them; others are answered with no places. No condition.
-/
import Derived.Test.YtodmkjeankbieaaFrame
import Derived.Test.YtodmkjeankbieaaCodePut2
import Derived.Test.YtodmkjeankbieaaCodePlain
import Derived.Test.YtodmkjeankbieaaSame
import Derived.Test.YtodmkjeankbieaaOpen
namespace Go.Proofs.Ytodmkjeankbieaa.codeThere
open Go.Sort Go.ChangeShapes Go.WideShapes Go.ChangeAt Go.RowKit Go.Joins

theorem rows_len : ∀ (n : Nat) (s : RS), (rrows n s).1.length ≤ n
  | 0, _ => by simp [rrows]
  | n + 1, s => by
    unfold rrows
    split
    · simp
    · have := rows_len n (rrow s).2
      simp only [List.length_cons]; omega
theorem loop_len : ∀ (n : Nat) (s : RS), (rloop n s).1.length ≤ n
  | 0, _ => by simp [rloop]
  | n + 1, s => by
    unfold rloop
    split
    · simp
    · have := loop_len n (rmove s).2
      simp only [List.length_cons]; omega
theorem moves_len {s : RS} (h : ByL s) : (rmoves s).1.length ≤ 255 := by
  have h1 := rget_by h
  have := loop_len (rget s).1.toNat (rget s).2
  unfold rmoves
  omega
theorem rows_small : ∀ (n : Nat) (s : RS), ByL s → ((rrows n s).1.flatMap rwNums).length ≤ n * 4598
  | 0, s, _ => by simp [rrows]
  | n + 1, s, h => by
    have h1 := rplace_ok h
    have h2 := rplace_ok h1.2
    have h3 := rplace_ok h2.2
    have h4 := rmoves_ok h3.2
    have m1 := moves_len h3.2
    have m2 := moves_len h4.2
    unfold rrows
    split
    · simp
    · have ih := rows_small n (rrow s).2 (rrow_ok h).2
      rw [List.flatMap_cons, List.length_append]
      have e : (rwNums (rrow s).1).length = 6 + (1 + 9 * (rrow s).1.before.length) + (1 + 9 * (rrow s).1.after.length) := by
        simp only [rwNums, List.length_append, mvs_len, List.length_cons, List.length_nil]
      have m1' : (rrow s).1.before.length ≤ 255 := m1
      have m2' : (rrow s).1.after.length ≤ 255 := m2
      omega
theorem got_small {bs : List Int} {p : Pd} (hby : ∀ x ∈ bs, 0 ≤ x ∧ x ≤ 255) (h : rGet bs = some p) : (pdNums p).length * 8 ≤ 140737488355328 := by
  have h1 := rget_by (s := (bs, false)) hby
  have h2 := rget_by h1.2.2
  have h3 := rows_small (rget (rget (bs, false)).2).1.toNat _ h2.2.2
  unfold rGet at h
  split at h
  · cases h
  · simp only [Option.some.injEq] at h
    subst h
    have e : (pdNums (rall bs).1).length = 2 + ((rrows (rget (rget (bs, false)).2).1.toNat (rget (rget (bs, false)).2).2).1.flatMap rwNums).length := by
      unfold pdNums
      simp only [List.length_cons]
      have : (rall bs).1.rows = (rrows (rget (rget (bs, false)).2).1.toNat (rget (rget (bs, false)).2).2).1 := rfl
      rw [this]; omega
    rw [e]
    have : (rget (rget (bs, false)).2).1.toNat ≤ 255 := by omega
    have : (rget (rget (bs, false)).2).1.toNat * 4598 ≤ 255 * 4598 := Nat.mul_le_mul_right _ this
    omega

theorem all_byte {L : List Int} (h : ∀ x ∈ L, 0 ≤ x ∧ x ≤ 255) : L.all isByte = true ∧ toByte L = L := by
  refine ⟨List.all_eq_true.2 fun x hx => by simp [isByte]; exact h x hx, ?_⟩
  unfold toByte
  conv => rhs; rw [← List.map_id L]
  refine List.map_congr_left fun x hx => ?_
  have := h x hx
  simp only [id]
  omega

def noPd : Pd := ⟨0, []⟩
theorem noPd_rd (w : World) (R : Nat → Prop) : RdPd w R (.agg #[.int .i64 0, .slice none 0 0]) noPd :=
  ⟨_, [], rfl, by simp [inI, noPd], ⟨none, 0, rfl, by simp, Reads.none_, by simp⟩, rfl⟩

set_option maxHeartbeats 1000000 in
set_option maxRecDepth 100000 in
theorem walk (A : Option Addr) (c : Nat) (bs : List Int) (w : World) (hr : Reads w (fun b => b < w.heap.size) 1 A bs.length (byteVals bs)) (hby : ∀ x ∈ bs, 0 ≤ x ∧ x ≤ 255) (hl : bs.length ≤ c) (hc : c ≤ maxLen) :
    Calls Try.prog 10 #[.slice A bs.length c] w fun e w' => e = .returned (.bool true) ∧ Below w.heap.size w w' := by
  have hn0 : pdNums noPd = [0, 0] := rfl
  have HP := Lib.hid (Put_any (.agg #[.int .i64 0, .slice none 0 0]) noPd w (noPd_rd _ _) (by rw [hn0]; simp))
  have HN := Lib.hid hn0
  have HR := Lib.hid hr
  clear hr hn0
  go_enter Try.func10, Try.ntmps10
  go_wp2_with fail
  refine HP.out.mono ?_
  rintro e w1 ⟨vb, err, rfl, f1, h1⟩
  rw [HN.out] at h1
  rcases h1 with ⟨_, rfl, h1⟩ | ⟨h1, _⟩
  · obtain ⟨A1, c1, rfl, _, _⟩ := own_reads h1
    have hlen : (toByte [0, 0]).length = 2 := rfl
    simp only [hlen] at *
    clear h1 hlen
    go_wp2_with fail
    refine (Get_any A c bs _ ((HR.out.kept f1 (fun _ _ h => h)).more (fun b hb => by have := f1.size; omega)) hby hl hc).mono ?_
    rintro e w2 ⟨f2, h2⟩
    have HF := Lib.hid (f1.trans f2)
    rcases h2 with ⟨hg, rfl⟩ | ⟨p, v, hg, rfl, hp⟩
    · have HG := Lib.hid hg
      clear hg
      go_wp2_with (go_at_call 24; refine (Same_any (fun _ => True) (fun _ => True) _ _ noPd noPd _ (noPd_rd _ _) (noPd_rd _ _)).mono ?_; rintro e w3 ⟨rfl, f3⟩)
      go_ret
      refine ⟨ret_b ?_, ?_⟩
      · simp [pdEq]
      · exact Fr.below ((HF.out.alloc _).trans f3)
    · have hsm := got_small hby hg
      have hrh := read_has hby hg
      have hab := all_byte hby
      obtain ⟨vr, l, rfl, hi, hrr, hpp⟩ := id hp
      obtain ⟨Ar, cr, rfl, _, _, _⟩ := id hrr
      have HG := Lib.hid hp
      have HH := Lib.hid hrh
      have HA := Lib.hid hab
      clear hp hrh hab hg hrr hpp
      go_wp2_with fail
      refine (Put_any _ p _ ((HG.out.kept ((Kept.refl (fun _ => False) w2).alloc _) (fun _ _ h => h)).more (fun b hb => by simp; omega)) hsm).mono ?_
      rintro e w3 ⟨vb, err, rfl, f3, h3⟩
      rw [HH.out, HA.out.1, HA.out.2] at h3
      rcases h3 with ⟨_, rfl, h3⟩ | ⟨h3, _⟩
      · obtain ⟨A3, c3, rfl, _, r3⟩ := own_reads h3
        have HK := Lib.hid ((HF.out.alloc _).trans f3)
        have cv1 := fun n => conv_bytes (P := Try.prog) (c := c) (w := w3.drewN n) Try.underlying35 Try.underlying5 Try.underlying9 (HR.out.kept (HK.out.drewN n) (fun _ _ h => h))
        have cv2 := fun n => conv_bytes (P := Try.prog) (c := c3) (w := w3.drewN n) Try.underlying35 Try.underlying5 Try.underlying9 (r3.kept ((Kept.refl (fun _ => False) w3).drewN n) (fun _ _ h => h))
        have cv3 := cv1 0
        have cv4 := cv2 0
        have e0 : w3.drewN 0 = w3 := rfl
        rw [e0] at cv3 cv4
        clear cv1 cv2 h3 r3 e0
        go_wp2
        go_ret
        exact ⟨rfl, Fr.below HK.out⟩
      · simp at h3
  · simp [isByte] at h1

set_option maxRecDepth 100000 in
theorem lifted (os : Os) (started : os.Started) (H : Type) (enc : TypeId × Value → H) :
    ReturnsInHanded {} Try.checked os 10 .any (Rows.codeThereSpec.pre6 enc Try.prog Try.f10 Rows.codeThereRow.domain false) (Rows.codeThereSpec.post enc Try.prog Try.f10 false true false false) := by
  refine returnsInHanded_of_change (C := Try.checked) own started (by kernel_rfl) Try.func10
    (ChangeSpec.witness6 (enc := enc) (C := Try.checked) false ⟨#[], #[.slice none 0 0], []⟩ 8 (by kernel_rfl) (by kernel_rfl) (by kernel_rfl) (by kernel_rfl)) ?_
  intro W base args ds gs before hval0 hW _ _
  have hval : ∀ (j : Nat) t v, Try.f10.params[j]? = some t → args[j]? = some v → Value.okWide Try.prog W .any base t v := hval0
  have hlt : ∀ x ∈ before, x.block < W.heap.size := fun x hx => hW.lt x hx
  have hW' := hW
  obtain ⟨p, q, hA0, hV, rfl, _, _⟩ := hW
  have hA : DataW.TrodAll enc Try.prog W 0 (fun _ => true) true Try.f10.params.toList args.toList ds p := hA0
  rw [Try.params10] at hA hval
  obtain ⟨v0, vs0, d0, ds0, p0, q0, hargs, rfl, rfl, h0, r0⟩ := trodAll_cons hA
  obtain ⟨rfl, rfl, rfl⟩ := trodAll_nil r0
  obtain rfl : args = #[v0] := by cases args; simp_all
  have hg : gs = [] := (trodVars_none hV).1
  subst hg
  suffices hwalk : Calls Try.prog 10 #[v0] W fun e W' => e = .returned (.bool true) ∧ Below W.heap.size W W' by
    refine hwalk.mono fun e W' ⟨he, hb⟩ => ?_
    subst he
    exact law_post (by kernel_rfl) rfl rfl hW' rfl hb
  obtain ⟨A, c, bs, rfl, hr, hby, hl, hc⟩ := open_bytes (R := fun b => b < W.heap.size) (hval 0 35 v0 rfl rfl) h0 (fun x hx => hlt x (by simp [hx]))
  exact walk A c bs W hr hby hl hc

theorem over : Rows.codeThereRow.holds Try.pinned (OpenSpec.ofChange Rows.codeThereSpec) :=
  OpenClaim.holds_of_wide 10 Try.f10 rfl rfl rfl rfl rfl rfl rfl ⟨rfl, rfl, rfl, rfl, rfl⟩ rfl rfl rfl rfl rfl (by kernel_rfl) Try.func10 (by kernel_rfl)
    (of_decide_eq_true (by kernel_rfl)) (by unfold Func.isWrapper; first | (rw [if_pos (by decide +kernel)]; kernel_rfl) | (rw [if_neg (by decide +kernel)]; exact ⟨rfl, rfl⟩))
    (fun os started H enc _ => lifted os started H enc)

/-- the statement -/
theorem proved : Rows.CodeThereSaid := over
#print axioms proved
end Go.Proofs.Ytodmkjeankbieaa.codeThere
