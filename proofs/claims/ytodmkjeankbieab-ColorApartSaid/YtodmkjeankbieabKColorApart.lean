/-
  ColorApart: for every program, such as may not be among them, and any number of registers, the program gives temporaries registers of their width, or none, and no two that are near ones that overlap; or it tells what is wrong. No condition.
-/
import Derived.Test.YtodmkjeankbieabKColorApartk1
import Derived.Test.YtodmkjeankbieabKColorApartk2
import Derived.Test.YtodmkjeankbieabKColorApartk6
import Derived.Test.YtodmkjeankbieabKColorApartk9
import Derived.BigQuiet
import Derived.Deep.QuietTactic
import Derived.Lib.QuietBelow
namespace Go.Proofs.Ytodmkjeankbieab.colorApart
open Go.Sort Go.ChangeShapes Go.WideShapes Go.ChangeAt Go.RowKit Go.Joins

set_option maxHeartbeats 4000000 in
set_option maxRecDepth 100000 in
theorem walk (R : Nat → Prop) (v : Value) (p : Pg) (sg : Int) (w : World) (h : RdPg w R v p) :
    Calls Try.prog 10 #[v, .int .i64 sg] w fun e w' => e = .returned (.bool true) ∧ Below w.heap.size w w' := by
  have H := Lib.hid h
  obtain ⟨vw, vc, rfl, ⟨A, c, rfl, hl, hr⟩, ⟨A', c', rfl, hl', hr', ho'⟩⟩ := h
  clear hr hr' ho'
  have B0 := Lib.hid (Blk.new w 25 #[.slice A p.wide.length c, .slice A' p.code.length c'])
  go_enter Try.func10, Try.ntmps10
  go_wp2_with fail
  refine (make_any R _ p sg _ (H.out.kept ((Kept.refl (fun _ => False) w).alloc _) (fun _ _ h => h))).mono ?_
  rintro e w1 ⟨f1, he⟩
  have HB1 := Lib.hid (B0.out.kept f1 (fun h => h))
  have HF1 := Lib.hid (show Fr w w1 from ((Kept.refl _ w).alloc _).trans f1)
  have HM := Lib.hid (fun w2 (hf : Fr w w2) => refMay_any R _ p w2 (H.out.kept hf (fun _ _ h => h)))
  have c0 := HB1.out.cell 0
  have c1 := HB1.out.cell 1
  have z1 := HB1.out.lt
  simp only [List.getElem?_toArray, List.getElem?_cons_succ, List.getElem?_cons_zero] at c0 c1
  clear f1 B0
  rcases he with ⟨hm, rfl⟩ | ⟨hm, hs, rfl⟩ | ⟨hm, h0, h16, h2, g0, rfl, hg0, hob⟩
  · rw [hm] at HM
    clear hm
    go_wp2_with fail
    refine (HM.out _ HF1.out).mono ?_
    rintro e w2 ⟨rfl, f2⟩
    have HF2 := Lib.hid (HF1.out.trans f2)
    clear f2
    go_wp2
    go_ret
    exact ⟨rfl, Fr.below HF2.out⟩
  · rw [hm] at HM
    clear hm
    go_wp2_with fail
    refine (HM.out _ HF1.out).mono ?_
    rintro e w2 ⟨rfl, f2⟩
    have HF2 := Lib.hid (HF1.out.trans f2)
    clear f2
    by_cases h0 : sg < 0
    · clear hs
      go_wp2
      go_ret
      exact ⟨rfl, Fr.below HF2.out⟩
    · by_cases h1 : 16 < sg
      · clear hs
        go_wp2
        go_ret
        exact ⟨rfl, Fr.below HF2.out⟩
      · have h2 : sg.tmod 2 = 1 := by rw [Int.tmod_eq_emod_of_nonneg (by omega)]; omega
        clear hs
        go_wp2
        go_ret
        exact ⟨rfl, Fr.below HF2.out⟩
  · have hmay := Lib.hid hm
    rw [hm] at HM
    obtain ⟨l1, l2, l3, l4⟩ := mayB_len hm
    obtain ⟨s, rfl⟩ : ∃ s : Nat, sg = (s : Int) := ⟨sg.toNat, by omega⟩
    have hs1 : s ≤ 16 := by omega
    have hs2 : ((s : Int)).tmod 2 = 0 := by rw [Int.tmod_eq_emod_of_nonneg (by omega)]; omega
    have HSE := Lib.hid (show (s : Int) % 2 = 0 by omega)
    have hn0 : ¬ (s : Int) < 0 := by omega
    have hn1 : ¬ (16 : Int) < (s : Int) := by omega
    rw [Int.toNat_natCast] at hob
    have HOB := Lib.hid hob
    have HCA := Lib.hid (colF_ok p s)
    generalize colF p s = o at *
    clear hm h0 h16 h2 hob
    go_wp2_with fail
    refine (HM.out _ HF1.out).mono ?_
    rintro e w2 ⟨rfl, f2⟩
    have HF2 := Lib.hid (HF1.out.trans f2)
    have HB2 := Lib.hid (HB1.out.kept f2 (fun h => h))
    have HO2 := Lib.hid (HOB.out.kept f2 (fun h => h))
    have c0 := HB2.out.cell 0
    have c1 := HB2.out.cell 1
    have z1 := HB2.out.lt
    simp only [List.getElem?_toArray, List.getElem?_cons_succ, List.getElem?_cons_zero] at c0 c1
    clear f2 HM HB1 HOB HF1
    go_wp2_with fail
    refine (refNearOf_any R _ p _ (H.out.kept HF2.out (fun _ _ h => h)) hmay.out).mono ?_
    rintro e w3 ⟨v3, rfl, hr3, f3⟩
    have HF3 := Lib.hid (HF2.out.trans f3)
    have HB3 := Lib.hid (HB2.out.kept f3 (fun h => h))
    have HO3 := Lib.hid (HO2.out.kept f3 (fun h => h))
    have HR3 := Lib.hid hr3
    clear f3 hr3 HF2 HB2 HO2 c0 c1 z1
    go_wp2
    have HK3 := Lib.hid (Kept.refl (fun _ => False) w3)
    go_loopw [8] (fun i wr => ∃ a : Nat, a ≤ p.wide.length ∧ i = .int .i64 a ∧ Hid (Fr w3 wr)) (fun i _ => p.wide.length - (intOf i).toNat)
    case atStart => exact ⟨0, Nat.zero_le _, rfl, HK3⟩
    case round =>
      obtain ⟨a, ha, rfl, hf⟩ := hrel
      clear HK3
      by_cases hal : a < p.wide.length
      · have hxx : p.wide[a]? = some (p.wide[a]) := List.getElem?_eq_getElem hal
        have hwd := wd_nat hxx
        have HBA := Lib.hid (HB3.out.kept hf.out (fun h => h))
        have HOA := Lib.hid (HO3.out.kept hf.out (fun h => h))
        obtain ⟨vw2, vc2, e2, hbo, _⟩ := H.out.kept (HF3.out.trans hf.out) (fun _ _ h => h)
        simp only [Value.agg.injEq, Array.mk.injEq, List.cons.injEq, and_true] at e2
        obtain ⟨rfl, hz6⟩ := e2
        clear hz6
        obtain ⟨bw, ow, cw2, ew, _, hbw, cw⟩ := hbo.at_ hxx
        simp only [Value.slice.injEq, true_and] at ew
        obtain ⟨rfl, hz6⟩ := ew
        clear hz6
        have p0 := HBA.out.cell 0
        have zp := HBA.out.lt
        simp only [List.getElem?_toArray, List.getElem?_cons_zero] at p0
        obtain ⟨d0, d1⟩ := mkP_at (o := o) hal
        have e0 := (HOA.out.cell (a * 2)).trans d0
        have e1 := (HOA.out.cell (a * 2 + 1)).trans d1
        have zo := HOA.out.lt
        have ha0 : (0 : Int) ≤ (a : Int) := by omega
        have ha1 : (a : Int) < (p.wide.length : Int) := by omega
        have hreg := HCA.out.reg a hal
        have HAP := Lib.hid (fun b (hb : b < p.wide.length) => HCA.out.apart a b hal hb)
        clear hbo hxx d0 d1
        generalize p.wide[a] = x at *
        rcases hreg with hz | hz
        · rw [hz] at e0 e1
          simp only at e0 e1
          clear hz HAP hwd
          cases x
          all_goals
            go_wp2
            obtain ⟨wB, rfl⟩ : ∃ wB : World, wB = wr := ⟨_, rfl⟩
            go_loopw [11] (fun i wr => ∃ b : Nat, b ≤ a ∧ i = .int .i64 b ∧ Hid (Fr wB wr)) (fun i _ => a - (intOf i).toNat)
            case atStart => exact ⟨0, Nat.zero_le _, rfl, Lib.hid (Kept.refl (fun _ => False) wB)⟩
            case round =>
              obtain ⟨b, hb, rfl, hg⟩ := hrel
              by_cases hbl : b < a
              · obtain ⟨b6, o6, c6, v6, e6, _, z6, m0, hrow⟩ := ((HR3.out.kept hf.out (fun _ _ h => h)).kept hg.out (fun _ _ h => h)).row (nearM_row hal)
                subst e6
                have hru : ((List.range p.wide.length).map (nearB p.code a))[b]? = some (nearB p.code a b) := by simp [List.getElem?_range (show b < p.wide.length by omega)]
                obtain ⟨b7, o7, c7, e7, _, z7, m1⟩ := hrow.at_ hru
                rw [List.length_map, List.length_range] at e7
                subst e7
                have hml : (a : Int) < ((nearM p).length : Int) := by unfold nearM; simp; omega
                have hb0 : (0 : Int) ≤ (b : Int) := by omega
                have hb1 : (b : Int) < (p.wide.length : Int) := by omega
                have hab : (b : Int) < (a : Int) := by omega
                generalize nearB p.code a b = nr at *
                clear hrow hru
                cases nr
                all_goals
                  go_wp2
                  go_quiet (fail)
                  have HGN := Lib.hid (hg.out.drewN nq)
                  go_wp2
                  go_roundw
                  case rel => exact ⟨b + 1, by omega, by go_num, HGN⟩
                  case measure => simp [intOf]; omega
              · obtain rfl : b = a := by omega
                have HFN := Lib.hid (hf.out.trans hg.out)
                go_wp2
                go_roundw
                case rel => exact ⟨b + 1, by omega, by go_num, HFN⟩
                case measure => simp [intOf]; omega
        · obtain ⟨hk, hb⟩ := hz
          have hbk := isB_kind hb
          have HOKA := Lib.hid (isB_ok (sg := s) (sl := 0) hb hs1 (by decide))
          have hisr : isR (s : Int) 0 (o a) = true := by rw [← is_eq (by omega) HSE.out]; exact hb
          have HIS := Lib.hid (fun w2 => refIs_any (s : Int) 0 (o a) w2 (by omega) (by omega) HSE.out HOKA.out)
          rw [hisr] at HIS
          rw [hwd] at hk
          clear hisr hb hwd
          generalize hoa : o a = oa at *
          have HOA2 := Lib.hid hoa
          clear hoa
          obtain ⟨ak, an⟩ := oa
          unfold PlaceV.val tgV at HIS
          simp only at hk hbk HIS e0 e1
          cases x
          all_goals
            simp only [if_true, if_false, Bool.false_eq_true] at hk
            subst hk
            clear hbk
            go_wp2_with fail
            refine (HIS.out _).mono ?_
            rintro e wI ⟨rfl, fI⟩
            have HFI := Lib.hid (hf.out.trans fI)
            have HOI := Lib.hid (HOA.out.kept fI (fun h => h))
            clear fI p0 zp e0 e1 zo cw hbw
            go_wp2
            go_loopw [11] (fun i wr => ∃ b : Nat, b ≤ a ∧ i = .int .i64 b ∧ Hid (Fr wI wr)) (fun i _ => a - (intOf i).toNat)
            case atStart => exact ⟨0, Nat.zero_le _, rfl, Lib.hid (Kept.refl (fun _ => False) wI)⟩
            case round =>
              obtain ⟨b, hb, rfl, hg⟩ := hrel
              by_cases hbl : b < a
              · obtain ⟨b6, o6, c6, v6, e6, _, z6, m0, hrow⟩ := ((HR3.out.kept HFI.out (fun _ _ h => h)).kept hg.out (fun _ _ h => h)).row (nearM_row hal)
                subst e6
                have hru : ((List.range p.wide.length).map (nearB p.code a))[b]? = some (nearB p.code a b) := by simp [List.getElem?_range (show b < p.wide.length by omega)]
                obtain ⟨b7, o7, c7, e7, _, z7, m1⟩ := hrow.at_ hru
                rw [List.length_map, List.length_range] at e7
                subst e7
                have hml : (a : Int) < ((nearM p).length : Int) := by unfold nearM; simp; omega
                have hb0 : (0 : Int) ≤ (b : Int) := by omega
                have hb1 : (b : Int) < (p.wide.length : Int) := by omega
                have hab : (b : Int) < (a : Int) := by omega
                have HOb := HOI.out.kept hg.out (fun h => h)
                obtain ⟨d0, d1⟩ := mkP_at (o := o) (t := b) (show b < p.wide.length by omega)
                have e2 := (HOb.cell (b * 2)).trans d0
                have e3 := (HOb.cell (b * 2 + 1)).trans d1
                obtain ⟨d2, d3⟩ := mkP_at (o := o) hal
                rw [HOA2.out] at d2 d3
                have e0 := (HOb.cell (a * 2)).trans d2
                have e1 := (HOb.cell (a * 2 + 1)).trans d3
                have zo := HOb.lt
                simp only at e0 e1
                have hap := HAP.out b (by omega)
                have hregb := HCA.out.reg b (by omega)
                have hokb : (o b).ok := by
                  rcases hregb with h | h
                  · rw [h]; unfold PlaceV.ok inI; decide
                  · exact isB_ok (sg := s) (sl := 0) h.2 hs1 (by decide)
                have HAB := Lib.hid hap
                have HOKB := Lib.hid hokb
                clear hrow hru d0 d1 d2 d3 hap hregb hokb HOb
                generalize nearB p.code a b = nr at *
                generalize o b = ob at *
                obtain ⟨bk, bn⟩ := ob
                simp only at e2 e3
                cases nr with
                | false =>
                  go_wp2
                  go_quiet (fail)
                  have HGN := Lib.hid (hg.out.drewN nq)
                  go_wp2
                  go_roundw
                  case rel => exact ⟨b + 1, by omega, by go_num, HGN⟩
                  case measure => simp [intOf]; omega
                | true =>
                  by_cases hk0 : bk = 0
                  · subst hk0
                    go_wp2
                    go_quiet (fail)
                    have HGN := Lib.hid (hg.out.drewN nq)
                    go_wp2
                    go_roundw
                    case rel => exact ⟨b + 1, by omega, by go_num, HGN⟩
                    case measure => simp [intOf]; omega
                  · have hk0' : (bk != 0) = true := by simpa using hk0
                    have hov := HAB.out rfl (by simp) hk0
                    have HOV := Lib.hid (fun (d : Nat) (os : Array Obj) => refOverlap_any _ _ (grow (redrawn wr d) os) HOKA.out HOKB.out)
                    rw [hov] at HOV
                    unfold PlaceV.val at HOV
                    simp only at HOV
                    have rm0 := cell_regrown m0
                    have rm1 := cell_regrown m1
                    have re0 := cell_regrown e0
                    have re1 := cell_regrown e1
                    have re2 := cell_regrown e2
                    have re3 := cell_regrown e3
                    clear hov hk0
                    go_wp2
                    refine wp_region_quiet_below (by kernel_rfl) (by kernel_rfl) ?_
                    repeat (quiet_step (refine Calls.regrown_of ((HOV.out _ _).mono fun e w' h => ⟨h.1, h.2.below⟩)))
                    refine wpQuiet_nil ?_
                    intro _ hw2
                    obtain ⟨pq, rfl⟩ := hw2
                    go_wp2
                    go_roundw
                    case rel => exact ⟨b + 1, by omega, by go_num, Lib.hid (hg.out.trans (kept_of_regrown _ _))⟩
                    case measure => simp [intOf]; omega
              · obtain rfl : b = a := by omega
                have HFN := Lib.hid (HFI.out.trans hg.out)
                go_wp2
                go_roundw
                case rel => exact ⟨b + 1, by omega, by go_num, HFN⟩
                case measure => simp [intOf]; omega
      · obtain rfl : a = p.wide.length := by omega
        have HFN := Lib.hid (HF3.out.trans hf.out)
        go_wp2
        go_ret
        exact ⟨rfl, Fr.below HFN.out⟩
set_option maxRecDepth 100000 in
theorem lifted (os : Os) (started : os.Started) (H : Type) (enc : TypeId × Value → H) :
    ReturnsInHanded {} Try.checked os 10 .any (Rows.colorApartSpec.pre6 enc Try.prog Try.f10 Rows.colorApartRow.domain false) (Rows.colorApartSpec.post enc Try.prog Try.f10 false true false false) := by
  refine returnsInHanded_of_change (C := Try.checked) own started (by kernel_rfl) Try.func10
    (ChangeSpec.witness6 (enc := enc) (C := Try.checked) false ⟨#[], #[.agg #[.slice none 0 0, .slice none 0 0], .int .i64 0], []⟩ 8 (by kernel_rfl) (by kernel_rfl) (by kernel_rfl) (by kernel_rfl)) ?_
  intro W base args ds gs before hval0 hW _ _
  have hval : ∀ (j : Nat) t v, Try.f10.params[j]? = some t → args[j]? = some v → Value.okWide Try.prog W .any base t v := hval0
  have hlt : ∀ x ∈ before, x.block < W.heap.size := fun x hx => hW.lt x hx
  have hW' := hW
  obtain ⟨p, q, hA0, hV, rfl, _, _⟩ := hW
  have hA : DataW.TrodAll enc Try.prog W 0 (fun _ => true) true Try.f10.params.toList args.toList ds p := hA0
  rw [Try.params10] at hA hval
  obtain ⟨v0, vs0, d0, ds0, p0, q0, hargs, rfl, rfl, h0, r0⟩ := trodAll_cons hA
  obtain ⟨v1, vs1, d1, ds1, p1, q1, rfl, rfl, rfl, h1, r1⟩ := trodAll_cons r0
  obtain ⟨rfl, rfl, rfl⟩ := trodAll_nil r1
  obtain rfl : args = #[v0, v1] := by cases args; simp_all
  have hg : gs = [] := (trodVars_none hV).1
  subst hg
  suffices hwalk : Calls Try.prog 10 #[v0, v1] W fun e W' => e = .returned (.bool true) ∧ Below W.heap.size W W' by
    refine hwalk.mono fun e W' ⟨he, hb⟩ => ?_
    subst he
    exact law_post (by kernel_rfl) rfl rfl hW' rfl hb
  obtain ⟨p, hp⟩ := open_pg (R := fun _ => True) (hval 0 25 v0 rfl rfl) h0 (fun _ _ => trivial)
  obtain ⟨sg, rfl, rfl, rfl, w2⟩ := open_int Try.underlying3 (hval 1 3 v1 rfl rfl) h1
  exact walk _ v0 p sg W hp

theorem over : Rows.colorApartRow.holds Try.pinned (OpenSpec.ofChange Rows.colorApartSpec) :=
  OpenClaim.holds_of_wide 10 Try.f10 rfl rfl rfl rfl rfl rfl rfl ⟨rfl, rfl, rfl, rfl, rfl⟩ rfl rfl rfl rfl rfl (by kernel_rfl) Try.func10 (by kernel_rfl)
    (of_decide_eq_true (by kernel_rfl)) (by unfold Func.isWrapper; first | (rw [if_pos (by decide +kernel)]; kernel_rfl) | (rw [if_neg (by decide +kernel)]; exact ⟨rfl, rfl⟩))
    (fun os started H enc _ => lifted os started H enc)

/-- the statement -/
theorem proved : Rows.ColorApartSaid := over
#print axioms proved
end Go.Proofs.Ytodmkjeankbieab.colorApart
