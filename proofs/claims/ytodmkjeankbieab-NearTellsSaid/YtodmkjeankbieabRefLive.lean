/- The walks of the reference of chapter 4: takes, Needed, Of, Same. -/
import Derived.Test.YtodmkjeankbieabLiveOf
import Derived.Deep.RegionHeld3
namespace Go.Proofs.Ytodmkjeankbieab
open Go.RowKit Go.Sort

theorem use_cell' {w : World} {g k : Nat} {i : In} {u : Int} (h : Blk w g 3 #[.int .i64 i.a, .int .i64 i.b]) (ht : (uses i)[k]? = some u) : w.cell? ⟨g, k, none⟩ = some (.int .i64 u) := use_cell (op := i.op) h ht
theorem uses_len (i : In) : (uses i).length = many i.op := by
  unfold uses
  have := many_le i.op
  simp; omega
def noneTo (i : In) (t k : Nat) : Prop := ((uses i).take k).contains (t : Int) = false
theorem noneTo_s {i : In} {t k : Nat} {u : Int} (h : noneTo i t k) (hu : (uses i)[k]? = some u) (hne : (u == (t : Int)) = false) : noneTo i t (k + 1) := by
  unfold noneTo at *
  rw [beq_eq_false_iff_ne] at hne
  rw [List.take_add_one, hu]
  simp at h ⊢
  exact ⟨h, fun e => hne e.symm⟩
theorem takes_yes {i : In} {t k : Nat} {u : Int} (hu : (uses i)[k]? = some u) (he : (u == (t : Int)) = true) : takesB i t = true := by
  rw [beq_iff_eq] at he
  subst he
  unfold takesB
  rw [List.contains_iff_mem]
  exact List.mem_of_getElem? hu
theorem takes_no {i : In} {t : Nat} (h : noneTo i t (many i.op)) : takesB i t = false := by
  unfold noneTo at h
  rw [← uses_len, List.take_length] at h
  exact h

set_option maxHeartbeats 1000000 in
set_option maxRecDepth 100000 in
theorem refTakes_any (i : In) (t : Nat) (w : World) :
    Calls Try.prog 110 #[i.val, .int .i64 (t : Int)] w fun e w' => e = .returned (.bool (takesB i t)) ∧ Fr w w' := by
  have HU := Lib.hid (fun w => refUses_any i w)
  have HL := Lib.hid (many_le i.op)
  have HT := Lib.hid (fun k u => takes_yes (i := i) (t := t) (k := k) (u := u))
  have HNo := Lib.hid (takes_no (i := i) (t := t))
  have HS := Lib.hid (fun k u => noneTo_s (i := i) (t := t) (k := k) (u := u))
  have HC := Lib.hid (fun w g k u => use_cell' (w := w) (g := g) (k := k) (i := i) (u := u))
  have HUl := Lib.hid (uses_len i)
  generalize takesB i t = res at *
  generalize hm : many i.op = m at *
  clear hm
  have HI := Lib.hid (show noneTo i t 0 from rfl)
  generalize hni : noneTo i t = nto at *
  clear hni
  generalize uses i = us at *
  obtain ⟨op, d, a, b, cc, n⟩ := i
  unfold In.val at *
  simp only at HC HU
  have hml := HL.out
  go_enter Try.func110, Try.ntmps110
  go_wp2_with fail
  refine (HU.out _).mono ?_
  rintro e w1 ⟨g, rfl, hge, hb, f1⟩
  have HB := Lib.hid hb
  have HF : Hid (Fr w w1) := ((Kept.refl _ w).alloc _).trans f1
  have z1 := hb.lt
  clear hb f1 hge
  go_wp2
  go_loop [6] (fun i => ∃ k : Nat, k ≤ m ∧ i = .int .i64 k ∧ Hid (nto k)) (fun i => m - (intOf i).toNat)
  case atStart => exact ⟨0, Nat.zero_le _, rfl, HI⟩
  case round =>
    obtain ⟨k, hk, rfl, hn⟩ := hrel
    by_cases hlt : k < m
    · have hx : us[k]? = some (us[k]'(by have := HUl.out; omega)) := List.getElem?_eq_getElem _
      have c0 := HC.out _ _ _ _ HB.out hx
      have HX := Lib.hid hx
      clear hx
      generalize (us[k]'(by have := HUl.out; omega)) = u at *
      cases hu : (u == (t : Int)) with
      | true =>
        have HR := Lib.hid (HT.out _ _ HX.out hu)
        go_wp2
        go_ret
        exact ⟨ret_b HR.out.symm, HF.out⟩
      | false =>
        have HR := Lib.hid (HS.out _ _ hn.out HX.out hu)
        go_wp2
        go_round
        case rel => exact ⟨k + 1, by omega, by go_num, HR⟩
        case measure => simp [intOf]; omega
    · obtain rfl : k = m := by omega
      have HR := Lib.hid (HNo.out hn.out)
      go_wp2
      go_ret
      exact ⟨ret_b HR.out.symm, HF.out⟩
end Go.Proofs.Ytodmkjeankbieab
