/- The walk of place.May. -/
import Derived.Test.YtodmkjeankbieabPlace2
namespace Go.Proofs.Ytodmkjeankbieab
open Go.RowKit Go.Sort

def rowTo (p : Pg) (sg sl : Int) (rows : List Rw) (k : Nat) : Prop := ((p.code.zip rows).take k).all (fun x => rwB p sg sl x.1 x.2) = true
theorem rowTo_s {p : Pg} {sg sl : Int} {rows : List Rw} {k : Nat} {i : In} {r : Rw} (h : rowTo p sg sl rows k) (hi : p.code[k]? = some i) (hr : rows[k]? = some r) (hf : rwB p sg sl i r = true) : rowTo p sg sl rows (k + 1) := by
  unfold rowTo at *
  have hz : (p.code.zip rows)[k]? = some (i, r) := by rw [List.getElem?_zip_eq_some]; exact ⟨hi, hr⟩
  rw [List.take_add_one, List.all_append, h, hz]
  simp [hf]
theorem rowTo_no {p : Pg} {sg sl : Int} {rows : List Rw} {k : Nat} {i : In} {r : Rw} (hi : p.code[k]? = some i) (hr : rows[k]? = some r) (hf : rwB p sg sl i r = false) : ((p.code.zip rows).all fun x => rwB p sg sl x.1 x.2) = false := by
  have hz : (p.code.zip rows)[k]? = some (i, r) := by rw [List.getElem?_zip_eq_some]; exact ⟨hi, hr⟩
  rw [List.all_eq_false]
  exact ⟨(i, r), List.mem_of_getElem? hz, by simp [hf]⟩
theorem rowTo_all {p : Pg} {sg sl : Int} {rows : List Rw} (h : rowTo p sg sl rows p.code.length) : ((p.code.zip rows).all fun x => rwB p sg sl x.1 x.2) = true := by
  unfold rowTo at h
  rwa [List.take_of_length_le (by simp; omega)] at h

structure PmMem (w wr : World) (vw vc : Value) (sg sl : Int) (vr : Value) : Prop where
  bp : Blk wr w.heap.size 25 #[vw, vc]
  bt : Blk wr (w.heap.size + 1) 47 #[.int .i64 sg]
  bl : Blk wr (w.heap.size + 2) 50 #[.int .i64 sl, vr]
  fr : Fr w wr
theorem PmMem.keep {w wr w2 : World} {vw vc vr : Value} {sg sl : Int} (h : PmMem w wr vw vc sg sl vr) (hk : Fr wr w2) : PmMem w w2 vw vc sg sl vr :=
  ⟨h.bp.kept hk (fun h => h), h.bt.kept hk (fun h => h), h.bl.kept hk (fun h => h), h.fr.trans hk⟩

set_option maxHeartbeats 4000000 in
set_option maxRecDepth 100000 in
theorem placeMay_any (R R' : Nat → Prop) (v vl : Value) (p : Pg) (sg : Int) (l : Pd) (w : World) (h : RdPg w R v p) (hL : RdPd w R' vl l) :
    Calls Try.prog 54 #[v, tgV sg, vl] w fun e w' => e = .returned (.bool (mayL p sg l)) ∧ Fr w w' := by
  have H := Lib.hid h
  obtain ⟨vw, vc, rfl, ⟨A, c, rfl, hl, hr⟩, ⟨A', c', rfl, hl', hr', ho'⟩⟩ := h
  obtain ⟨vr, lv, rfl, hsl, ⟨Ar, cr, rfl, hlr, hrr, hor⟩, hrows⟩ := hL
  have HC := Lib.hid hr'
  have HRW := Lib.hid hrr
  have HOR := Lib.hid (fun (w2 : World) (hf : Fr w w2) x hx => (hor x hx).kept hf (fun _ _ h => h))
  unfold maxLen at hl hl' hlr
  clear hr hr' ho' hrr hor
  obtain ⟨sl, rows⟩ := l
  simp only at hrows hsl ⊢
  have HROWS := Lib.hid hrows
  have hlen : rows.length = lv.length := by rw [hrows]; simp
  clear hrows
  have HMay := Lib.hid (fun w1 (hk : Fr w w1) => May_any R _ p w1 (H.out.kept hk (fun _ _ h => h)))
  have HTg := Lib.hid (fun w => Target_any sg w)
  unfold tgV at HTg ⊢
  have HM0 : Hid (PmMem w (((w.alloc (.cells #[.slice A p.wide.length c, .slice A' p.code.length c'] 25)).alloc (.cells #[.int .i64 sg] 47)).alloc (.cells #[.int .i64 sl, .slice Ar lv.length cr] 50)) (.slice A p.wide.length c) (.slice A' p.code.length c') sg sl (.slice Ar lv.length cr)) := by
    refine ⟨((Blk.new w _ _).alloc _).alloc _, ?_, ?_, (((Kept.refl _ w).alloc _).alloc _).alloc _⟩
    · have := (Blk.new (w.alloc (.cells #[.slice A p.wide.length c, .slice A' p.code.length c'] 25)) 47 #[.int .i64 sg]).alloc (.cells #[.int .i64 sl, .slice Ar lv.length cr] 50)
      simpa using this
    · have := Blk.new ((w.alloc (.cells #[.slice A p.wide.length c, .slice A' p.code.length c'] 25)).alloc (.cells #[.int .i64 sg] 47)) 50 #[.int .i64 sl, .slice Ar lv.length cr]
      simpa using this
  go_enter Try.func54, Try.ntmps54
  go_wp2_with fail
  refine (HMay.out _ HM0.out.fr).mono ?_
  rintro e w1 ⟨rfl, f1⟩
  have HM1 := Lib.hid (HM0.out.keep f1)
  have t0 := HM1.out.bt.cell 0
  have zt := HM1.out.bt.lt
  simp only [List.getElem?_toArray, List.getElem?_cons_succ, List.getElem?_cons_zero] at t0
  clear f1 HM0 HMay
  cases hmay : mayB p with
  | false =>
    have HV : Hid (mayL p sg ⟨sl, rows⟩ = false) := by show _ = _; unfold mayL; rw [hmay]; rfl
    clear hmay
    go_wp2
    go_ret
    exact ⟨ret_b HV.out.symm, HM1.out.fr⟩
  | true =>
    go_wp2_with fail
    refine (HTg.out _).mono ?_
    rintro e w2 ⟨rfl, f2⟩
    have HM2 := Lib.hid (HM1.out.keep f2)
    have p1 := HM2.out.bp.cell 1
    have s0 := HM2.out.bl.cell 0
    have s1 := HM2.out.bl.cell 1
    have zp := HM2.out.bp.lt
    have zs := HM2.out.bl.lt
    simp only [List.getElem?_toArray, List.getElem?_cons_succ, List.getElem?_cons_zero] at p1 s0 s1
    clear f2 HM1 HTg
    cases htg : tgB sg with
    | false =>
      have HV : Hid (mayL p sg ⟨sl, rows⟩ = false) := by show _ = _; unfold mayL; rw [hmay, htg]; rfl
      clear hmay htg
      go_wp2
      go_ret
      exact ⟨ret_b HV.out.symm, HM2.out.fr⟩
    | true =>
      have HV : Hid (mayL p sg ⟨sl, rows⟩ = (decide (0 ≤ sl) && decide (sl ≤ 12) && decide (lv.length = p.code.length) && (p.code.zip rows).all fun x => rwB p sg sl x.1 x.2)) := by
        show _ = _; unfold mayL; simp only; rw [hmay, htg, hlen]; simp only [Bool.true_and]
      by_cases hs : 0 ≤ sl ∧ sl ≤ 12 ∧ lv.length = p.code.length
      · obtain ⟨g0, g1, g2⟩ := hs
        have HV2 : Hid (mayL p sg ⟨sl, rows⟩ = (p.code.zip rows).all fun x => rwB p sg sl x.1 x.2) := by
          show _ = _; rw [HV.out, decide_eq_true g0, decide_eq_true g1, decide_eq_true g2]; rfl
        obtain ⟨t1, t2, t3⟩ := tg_facts htg
        obtain ⟨l1, l2, l3, l4⟩ := mayB_len hmay
        have HMAY := Lib.hid hmay
        have hl2 : ((lv.length : Nat) : Int) = (p.code.length : Int) := by omega
        rw [g2] at s1
        rw [g2] at HM2
        clear HV hmay htg hl2
        go_wp2
        go_loopw [39] (fun i wr => ∃ k : Nat, k ≤ p.code.length ∧ i = .int .i64 k ∧ Hid (rowTo p sg sl rows k) ∧ Hid (PmMem w wr (.slice A p.wide.length c) (.slice A' p.code.length c') sg sl (.slice Ar p.code.length cr))) (fun i _ => p.code.length - (intOf i).toNat)
        case atStart => exact ⟨0, by omega, rfl, rfl, HM2⟩
        case round =>
          obtain ⟨k, hk, rfl, hto, hm⟩ := hrel
          clear p1 s0 s1 zp zs t0 zt
          have p0 := hm.out.bp.cell 0
          have p1 := hm.out.bp.cell 1
          have t0 := hm.out.bt.cell 0
          have s0 := hm.out.bl.cell 0
          have zp := hm.out.bp.lt
          have zt := hm.out.bt.lt
          have zs := hm.out.bl.lt
          simp only [List.getElem?_toArray, List.getElem?_cons_succ, List.getElem?_cons_zero] at p0 p1 t0 s0
          by_cases hlt : k < p.code.length
          · have hx : p.code[k]? = some p.code[k] := List.getElem?_eq_getElem hlt
            have hltv : k < lv.length := by omega
            have hy : lv[k]? = some lv[k] := List.getElem?_eq_getElem hltv
            obtain ⟨bi, oi, rfl, _, j0, _⟩ := (HC.out.kept hm.out.fr (fun _ _ h => h)).ins hx
            obtain ⟨br, or_, hAr, _, r0, r1, r2, r3, r4, r5, r6, r7⟩ := (HRW.out.kept hm.out.fr (fun _ _ h => h)).rw hy
            subst hAr
            have hI := mayB_ins HMAY.out (List.mem_of_getElem? hx)
            have hxok := HOR.out wr hm.out.fr lv[k] (List.mem_of_getElem? hy)
            have hyr : rows[k]? = some lv[k].r := by rw [HROWS.out, List.getElem?_map, hy]; rfl
            have zr := cell_lt r0
            clear j0
            have hk0 : (0 : Int) ≤ (k : Int) := Int.natCast_nonneg _
            have hk1 : (k : Int) < (p.code.length : Int) := by omega
            have HX := Lib.hid (And.intro hx hyr)
            clear hx hy hyr
            generalize p.code[k] = i at *
            generalize lv[k] = rv at *
            obtain ⟨_, _, _, hvb, hva⟩ := hxok
            obtain ⟨r, vb, va⟩ := rv
            simp only at *
            obtain ⟨Ab, cb, evb, _⟩ := id hvb
            obtain ⟨Aa, ca, eva, _⟩ := id hva
            subst evb; subst eva
            have HP := H.out.kept hm.out.fr (fun _ _ h => h)
            have hf1 : Fr wr (wr.alloc (.cells #[.int .i64 r.d.k, .int .i64 r.d.n, .int .i64 r.a.k, .int .i64 r.a.n, .int .i64 r.b.k, .int .i64 r.b.n, .slice Ab r.before.length cb, .slice Aa r.after.length ca] 60)) := (Kept.refl _ wr).alloc _
            have HBR := Lib.hid (Blk.new wr 60 #[.int .i64 r.d.k, .int .i64 r.d.n, .int .i64 r.a.k, .int .i64 r.a.n, .int .i64 r.b.k, .int .i64 r.b.n, .slice Ab r.before.length cb, .slice Aa r.after.length ca])
            have HMR := Lib.hid (hm.out.keep hf1)
            have HRow := Lib.hid (fun (d : Nat) (os : Array Obj) => row_any R R' _ (.slice Ab r.before.length cb) (.slice Aa r.after.length ca) p sg sl i r (grow (redrawn (wr.alloc (.cells #[.int .i64 r.d.k, .int .i64 r.d.n, .int .i64 r.a.k, .int .i64 r.a.n, .int .i64 r.b.k, .int .i64 r.b.n, .slice Ab r.before.length cb, .slice Aa r.after.length ca] 60)) d) os)
              ((HP.kept hf1 (fun _ _ h => h)).kept (kept_of_regrown (S := fun _ => False) d os) (fun _ _ h => h)) ((hvb.kept hf1 (fun _ _ h => h)).kept (kept_of_regrown (S := fun _ => False) d os) (fun _ _ h => h)) ((hva.kept hf1 (fun _ _ h => h)).kept (kept_of_regrown (S := fun _ => False) d os) (fun _ _ h => h)) t1 t2 hI l1)
            unfold tgV In.val RwV.value at HRow
            simp only at HRow
            obtain ⟨bi2, oi2, hAi, _, i0, i1, i2, i3, i4, i5⟩ := (HC.out.kept HMR.out.fr (fun _ _ h => h)).ins HX.out.1
            simp only [Option.some.injEq, Addr.mk.injEq, and_true] at hAi
            obtain ⟨rfl, rfl⟩ := hAi
            have zi := cell_lt i0
            have p0 := HMR.out.bp.cell 0
            have p1 := HMR.out.bp.cell 1
            have t0 := HMR.out.bt.cell 0
            have s0 := HMR.out.bl.cell 0
            have b0 := HBR.out.cell 0
            have b1 := HBR.out.cell 1
            have b2 := HBR.out.cell 2
            have b3 := HBR.out.cell 3
            have b4 := HBR.out.cell 4
            have b5 := HBR.out.cell 5
            have b6 := HBR.out.cell 6
            have b7 := HBR.out.cell 7
            simp only [List.getElem?_toArray, List.getElem?_cons_succ, List.getElem?_cons_zero] at p0 p1 t0 s0 b0 b1 b2 b3 b4 b5 b6 b7
            have q_p0 := cell_regrown p0
            have q_p1 := cell_regrown p1
            have q_t0 := cell_regrown t0
            have q_s0 := cell_regrown s0
            have q_b0 := cell_regrown b0
            have q_b1 := cell_regrown b1
            have q_b2 := cell_regrown b2
            have q_b3 := cell_regrown b3
            have q_b4 := cell_regrown b4
            have q_b5 := cell_regrown b5
            have q_b6 := cell_regrown b6
            have q_b7 := cell_regrown b7
            have q_i0 := cell_regrown i0
            have q_i1 := cell_regrown i1
            have q_i2 := cell_regrown i2
            have q_i3 := cell_regrown i3
            have q_i4 := cell_regrown i4
            have q_i5 := cell_regrown i5
            cases hrow : rwB p sg sl i r with
            | false =>
              have HV3 : Hid (mayL p sg ⟨sl, rows⟩ = false) := by show _ = _; rw [HV2.out]; exact rowTo_no HX.out.1 HX.out.2 hrow
              rw [hrow] at HRow
              clear hrow HV2
              go_wp2
              refine wp_region_quiet_below (by kernel_rfl) (by kernel_rfl) ?_
              repeat (quiet_step (refine Calls.regrown_of ((HRow.out _ _).mono fun e w' h => ⟨h.1, h.2.below⟩)))
              refine wpQuiet_nil ?_
              intro _ hw2
              obtain ⟨pq, rfl⟩ := hw2
              go_wp2
              go_ret
              exact ⟨ret_b HV3.out.symm, HMR.out.fr.trans (kept_of_regrown _ _)⟩
            | true =>
              have HV3 := Lib.hid (rowTo_s hto.out HX.out.1 HX.out.2 hrow)
              rw [hrow] at HRow
              clear hrow HV2
              go_wp2
              refine wp_region_quiet_below (by kernel_rfl) (by kernel_rfl) ?_
              repeat (quiet_step (refine Calls.regrown_of ((HRow.out _ _).mono fun e w' h => ⟨h.1, h.2.below⟩)))
              refine wpQuiet_nil ?_
              intro _ hw2
              obtain ⟨pq, rfl⟩ := hw2
              go_wp2
              go_roundw
              case rel => exact ⟨k + 1, by omega, by go_num, HV3, Lib.hid (HMR.out.keep (kept_of_regrown _ _))⟩
              case measure => simp [intOf]; omega
          · obtain rfl : k = p.code.length := by omega
            have HV3 : Hid (mayL p sg ⟨sl, rows⟩ = true) := by show _ = _; rw [HV2.out]; exact rowTo_all hto.out
            go_wp2
            go_ret
            exact ⟨ret_b HV3.out.symm, hm.out.fr⟩
      · have HV2 : Hid (mayL p sg ⟨sl, rows⟩ = false) := by
          show _ = _
          rw [HV.out]
          by_cases e0 : 0 ≤ sl
          · by_cases e1 : sl ≤ 12
            · rw [decide_eq_false (fun e2 => hs ⟨e0, e1, e2⟩ : ¬ lv.length = p.code.length)]; simp
            · rw [decide_eq_false e1]; simp
          · rw [decide_eq_false e0]; simp
        rcases (by omega : sl < 0 ∨ (0 ≤ sl ∧ 12 < sl) ∨ (0 ≤ sl ∧ sl ≤ 12 ∧ ¬ (lv.length : Int) = (p.code.length : Int))) with g0 | ⟨g0, g1⟩ | ⟨g0, g1, g2⟩
        · clear HV hmay htg hs
          go_wp2
          go_ret
          exact ⟨ret_b HV2.out.symm, HM2.out.fr⟩
        · clear HV hmay htg hs
          go_wp2
          go_ret
          exact ⟨ret_b HV2.out.symm, HM2.out.fr⟩
        · have hne : ((lv.length : Int) != (p.code.length : Int)) = true := by simpa using g2
          clear HV hmay htg hs
          go_wp2
          go_ret
          exact ⟨ret_b HV2.out.symm, HM2.out.fr⟩
end Go.Proofs.Ytodmkjeankbieab
