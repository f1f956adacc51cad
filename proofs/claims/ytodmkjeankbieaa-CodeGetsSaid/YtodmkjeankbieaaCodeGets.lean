/-
  CodeGets: for every bytes the program tells the places that they are, or that they are none, as the document's answer does. No condition.
-/
import Derived.Test.YtodmkjeankbieaaFrame
import Derived.Test.YtodmkjeankbieaaRefGet2
import Derived.Test.YtodmkjeankbieaaSame
import Derived.Test.YtodmkjeankbieaaOpen
import Derived.Test.YtodmkjeankbieaaOpenB
namespace Go.Proofs.Ytodmkjeankbieaa.codeGets
open Go.Sort Go.ChangeShapes Go.WideShapes Go.ChangeAt Go.RowKit Go.Joins

def noPd : Pd := ⟨0, []⟩
theorem noPd_rd (w : World) (R : Nat → Prop) : RdPd w R (.agg #[.int .i64 0, .slice none 0 0]) noPd :=
  ⟨_, [], rfl, by simp [inI, noPd], ⟨none, 0, rfl, by simp, Reads.none_, by simp⟩, rfl⟩
/-- what Get answers: the places, or none -/
theorem got {w : World} {bs : List Int} {e : Ending} {w' : World} (h : GetRes w bs e w') : ∃ p c A n k, e = .returned (.tuple #[.agg #[.int .i64 p.slots, .slice A n k], .int .i64 c]) ∧ p = (rGet bs).getD noPd ∧ c = (if (rGet bs).isNone then 2 else 0) ∧ RdPd w' (fun _ => True) (.agg #[.int .i64 p.slots, .slice A n k]) p ∧ Fr w w' := by
  obtain ⟨f, ⟨h1, rfl⟩ | ⟨p, v, h1, rfl, h2⟩⟩ := h
  · refine ⟨noPd, 2, none, 0, 0, rfl, ?_, ?_, noPd_rd _ _, f⟩ <;> rw [h1] <;> rfl
  · obtain ⟨vr, l, rfl, hi, ⟨A, c, rfl, hl, hr, ho⟩, hp⟩ := h2
    refine ⟨p, 0, A, l.length, c, rfl, ?_, ?_, ⟨_, l, rfl, hi, ⟨A, c, rfl, hl, hr.more (fun _ _ => trivial), fun x hx => ⟨(ho x hx).1, (ho x hx).2.1, (ho x hx).2.2.1, (ho x hx).2.2.2.1.more (fun _ _ => trivial), (ho x hx).2.2.2.2.more (fun _ _ => trivial)⟩⟩, hp⟩, f⟩ <;> rw [h1] <;> rfl

set_option maxHeartbeats 1000000 in
set_option maxRecDepth 100000 in
theorem walk (A : Option Addr) (c : Nat) (bs : List Int) (w : World) (hr : Reads w (fun b => b < w.heap.size) 1 A bs.length (byteVals bs)) (hby : ∀ x ∈ bs, 0 ≤ x ∧ x ≤ 255) (hl : bs.length ≤ c) (hc : c ≤ maxLen) :
    Calls Try.prog 7 #[.slice A bs.length c] w fun e w' => e = .returned (.bool true) ∧ Below w.heap.size w w' := by
  have HG := Lib.hid (Get_any A c bs w hr hby hl hc)
  have HX := Lib.hid (fun w2 (f : Fr w w2) => refGet_any A c bs w2 ((hr.kept f (fun _ _ h => h)).more (fun b hb => Nat.lt_of_lt_of_le hb f.size)) hby (Nat.le_trans hl hc))
  clear hr hby
  go_enter Try.func7, Try.ntmps7
  go_wp2_with fail
  refine HG.out.mono ?_
  intro e w1 h1
  obtain ⟨p, k, A1, n1, c1, rfl, hp, hk, hrd, f1⟩ := got h1
  have HP := Lib.hid hp
  have HK := Lib.hid hk
  have HRD := Lib.hid hrd
  clear h1 hp hk hrd HG
  go_wp2_with fail
  refine (HX.out _ (f1.alloc _)).mono ?_
  intro e w2 h2
  obtain ⟨p', k', A2, n2, c2, rfl, hp', hk', hrd', f2⟩ := got h2
  obtain rfl : p' = p := by rw [hp', HP.out]
  obtain rfl : k' = k := by rw [hk', HK.out]
  have HRD2 := Lib.hid ((HRD.out.kept ((Kept.refl (fun _ => False) w1).alloc (.cells #[.int .i64 p'.slots, .slice A1 n1 c1] 34)) (fun _ _ h => h)).kept f2 (fun _ _ h => h))
  have HRD' := Lib.hid hrd'
  have HF := Lib.hid ((f1.alloc (.cells #[.int .i64 p'.slots, .slice A1 n1 c1] 34)).trans f2)
  have HPE := Lib.hid (show pdEq p' p' = true from by simp [pdEq])
  have hbl := (Blk.new w1 34 #[.int .i64 p'.slots, .slice A1 n1 c1]).kept f2 (fun h => h)
  have b0 := hbl.cell 0
  have b1 := hbl.cell 1
  have bz := hbl.lt
  simp only [List.getElem?_toArray, List.getElem?_cons_succ, List.getElem?_cons_zero] at b0 b1
  clear h2 hp' hk' hrd' HRD HX f1 f2 hbl
  have HSM := Lib.hid (fun w3 (f : Fr w2 w3) => Same_any _ _ _ _ _ _ w3 (HRD2.out.kept f (fun _ _ h => h)) (HRD'.out.kept f (fun _ _ h => h)))
  clear HRD2 HRD'
  go_wp2_with fail
  refine (HSM.out _ ((Kept.refl (fun _ => False) w2).alloc _)).mono ?_
  rintro e w3 ⟨rfl, f3⟩
  rw [HPE.out]
  go_wp2
  go_ret
  exact ⟨rfl, Fr.below ((HF.out.alloc _).trans f3)⟩

set_option maxRecDepth 100000 in
theorem lifted (os : Os) (started : os.Started) (H : Type) (enc : TypeId × Value → H) :
    ReturnsInHanded {} Try.checked os 7 .any (Rows.codeGetsSpec.pre6 enc Try.prog Try.f7 Rows.codeGetsRow.domain false) (Rows.codeGetsSpec.post enc Try.prog Try.f7 false true false false) := by
  refine returnsInHanded_of_change (C := Try.checked) own started (by kernel_rfl) Try.func7
    (ChangeSpec.witness6 (enc := enc) (C := Try.checked) false ⟨#[], #[.slice none 0 0], []⟩ 8 (by kernel_rfl) (by kernel_rfl) (by kernel_rfl) (by kernel_rfl)) ?_
  intro W base args ds gs before hval0 hW _ _
  have hval : ∀ (j : Nat) t v, Try.f7.params[j]? = some t → args[j]? = some v → Value.okWide Try.prog W .any base t v := hval0
  have hlt : ∀ x ∈ before, x.block < W.heap.size := fun x hx => hW.lt x hx
  have hW' := hW
  obtain ⟨p, q, hA0, hV, rfl, _, _⟩ := hW
  have hA : DataW.TrodAll enc Try.prog W 0 (fun _ => true) true Try.f7.params.toList args.toList ds p := hA0
  rw [Try.params7] at hA hval
  obtain ⟨v0, vs0, d0, ds0, p0, q0, hargs, rfl, rfl, h0, r0⟩ := trodAll_cons hA
  obtain ⟨rfl, rfl, rfl⟩ := trodAll_nil r0
  obtain rfl : args = #[v0] := by cases args; simp_all
  have hg : gs = [] := (trodVars_none hV).1
  subst hg
  suffices hwalk : Calls Try.prog 7 #[v0] W fun e W' => e = .returned (.bool true) ∧ Below W.heap.size W W' by
    refine hwalk.mono fun e W' ⟨he, hb⟩ => ?_
    subst he
    exact law_post (by kernel_rfl) rfl rfl hW' rfl hb
  obtain ⟨A, c, bs, rfl, hr, hby, hl, hc⟩ := open_bytes (R := fun b => b < W.heap.size) (hval 0 35 v0 rfl rfl) h0 (fun x hx => hlt x (by simp [hx]))
  exact walk A c bs W hr hby hl hc

theorem over : Rows.codeGetsRow.holds Try.pinned (OpenSpec.ofChange Rows.codeGetsSpec) :=
  OpenClaim.holds_of_wide 7 Try.f7 rfl rfl rfl rfl rfl rfl rfl ⟨rfl, rfl, rfl, rfl, rfl⟩ rfl rfl rfl rfl rfl (by kernel_rfl) Try.func7 (by kernel_rfl)
    (of_decide_eq_true (by kernel_rfl)) (by unfold Func.isWrapper; first | (rw [if_pos (by decide +kernel)]; kernel_rfl) | (rw [if_neg (by decide +kernel)]; exact ⟨rfl, rfl⟩))
    (fun os started H enc _ => lifted os started H enc)

/-- the statement -/
theorem proved : Rows.CodeGetsSaid := over
#print axioms proved
end Go.Proofs.Ytodmkjeankbieaa.codeGets
