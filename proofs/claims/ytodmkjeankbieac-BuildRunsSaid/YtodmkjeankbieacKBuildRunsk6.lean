/- Place3, Done, RefForm2, RefForm3, RefRun, RefSh, SortInt, Bools, Color1: texts of this claim, packed into one file. -/
import Derived.Test.YtodmkjeankbieacKBuildRunsk5
import Derived.Test.YtodmkjeankbieacKBuildRunsk3
import Derived.Test.YtodmkjeankbieacKBuildRunsk4
import Derived.Test.YtodmkjeankbieacKBuildRunsk2
import Derived.Test.YtodmkjeankbieacKBuildRunsk0
import Derived.Shelf.SlSortCmp.Insertion
import Derived.Deep.OwnRows
import Derived.Deep.LoopGhost
/- The walk of place.May. -/
namespace Go.Proofs.Ytodmkjeankbieac
open Go.RowKit Go.Sort

def rowTo (p : Pg) (sg sl : Int) (rows : List Rw) (k : Nat) : Prop := ((p.code.zip rows).take k).all (fun x => rwB p sg sl x.1 x.2) = true
theorem rowTo_s {p : Pg} {sg sl : Int} {rows : List Rw} {k : Nat} {i : In} {r : Rw} (h : rowTo p sg sl rows k) (hi : p.code[k]? = some i) (hr : rows[k]? = some r) (hf : rwB p sg sl i r = true) : rowTo p sg sl rows (k + 1) := by
  unfold rowTo at *
  have hz : (p.code.zip rows)[k]? = some (i, r) := by rw [List.getElem?_zip_eq_some]; exact ⟨hi, hr⟩
  rw [List.take_add_one, List.all_append, h, hz]
  simp [hf]
theorem rowTo_no {p : Pg} {sg sl : Int} {rows : List Rw} {k : Nat} {i : In} {r : Rw} (hi : p.code[k]? = some i) (hr : rows[k]? = some r) (hf : rwB p sg sl i r = false) : ((p.code.zip rows).all fun x => rwB p sg sl x.1 x.2) = false := by
  have hz : (p.code.zip rows)[k]? = some (i, r) := by rw [List.getElem?_zip_eq_some]; exact ⟨hi, hr⟩
  rw [List.all_eq_false]
  exact ⟨(i, r), List.mem_of_getElem? hz, by simp [hf]⟩
theorem rowTo_all {p : Pg} {sg sl : Int} {rows : List Rw} (h : rowTo p sg sl rows p.code.length) : ((p.code.zip rows).all fun x => rwB p sg sl x.1 x.2) = true := by
  unfold rowTo at h
  rwa [List.take_of_length_le (by simp; omega)] at h

structure PmMem (w wr : World) (vw vc : Value) (sg sl : Int) (vr : Value) : Prop where
  bp : Blk wr w.heap.size 25 #[vw, vc]
  bt : Blk wr (w.heap.size + 1) 27 #[.int .i64 sg]
  bl : Blk wr (w.heap.size + 2) 31 #[.int .i64 sl, vr]
  fr : Fr w wr
theorem PmMem.keep {w wr w2 : World} {vw vc vr : Value} {sg sl : Int} (h : PmMem w wr vw vc sg sl vr) (hk : Fr wr w2) : PmMem w w2 vw vc sg sl vr :=
  ⟨h.bp.kept hk (fun h => h), h.bt.kept hk (fun h => h), h.bl.kept hk (fun h => h), h.fr.trans hk⟩

set_option maxHeartbeats 4000000 in
set_option maxRecDepth 100000 in
theorem placeMay_any (R R' : Nat → Prop) (v vl : Value) (p : Pg) (sg : Int) (l : Pd) (w : World) (h : RdPg w R v p) (hL : RdPd w R' vl l) :
    Calls Try.prog 20 #[v, tgV sg, vl] w fun e w' => e = .returned (.bool (mayL p sg l)) ∧ Fr w w' := by
  have H := Lib.hid h
  obtain ⟨vw, vc, rfl, ⟨A, c, rfl, hl, hr⟩, ⟨A', c', rfl, hl', hr', ho'⟩⟩ := h
  obtain ⟨vr, lv, rfl, hsl, ⟨Ar, cr, rfl, hlr, hrr, hor⟩, hrows⟩ := hL
  have HC := Lib.hid hr'
  have HRW := Lib.hid hrr
  have HOR := Lib.hid (fun (w2 : World) (hf : Fr w w2) x hx => (hor x hx).kept hf (fun _ _ h => h))
  unfold maxLen at hl hl' hlr
  clear hr hr' ho' hrr hor
  obtain ⟨sl, rows⟩ := l
  simp only at hrows hsl ⊢
  have HROWS := Lib.hid hrows
  have hlen : rows.length = lv.length := by rw [hrows]; simp
  clear hrows
  have HMay := Lib.hid (fun w1 (hk : Fr w w1) => May_any R _ p w1 (H.out.kept hk (fun _ _ h => h)))
  have HTg := Lib.hid (fun w => Target_any sg w)
  unfold tgV at HTg ⊢
  have HM0 : Hid (PmMem w (((w.alloc (.cells #[.slice A p.wide.length c, .slice A' p.code.length c'] 25)).alloc (.cells #[.int .i64 sg] 27)).alloc (.cells #[.int .i64 sl, .slice Ar lv.length cr] 31)) (.slice A p.wide.length c) (.slice A' p.code.length c') sg sl (.slice Ar lv.length cr)) := by
    refine ⟨((Blk.new w _ _).alloc _).alloc _, ?_, ?_, (((Kept.refl _ w).alloc _).alloc _).alloc _⟩
    · have := (Blk.new (w.alloc (.cells #[.slice A p.wide.length c, .slice A' p.code.length c'] 25)) 27 #[.int .i64 sg]).alloc (.cells #[.int .i64 sl, .slice Ar lv.length cr] 31)
      simpa using this
    · have := Blk.new ((w.alloc (.cells #[.slice A p.wide.length c, .slice A' p.code.length c'] 25)).alloc (.cells #[.int .i64 sg] 27)) 31 #[.int .i64 sl, .slice Ar lv.length cr]
      simpa using this
  go_enter Try.func20, Try.ntmps20
  go_wp2_with fail
  refine (HMay.out _ HM0.out.fr).mono ?_
  rintro e w1 ⟨rfl, f1⟩
  have HM1 := Lib.hid (HM0.out.keep f1)
  have t0 := HM1.out.bt.cell 0
  have zt := HM1.out.bt.lt
  simp only [List.getElem?_toArray, List.getElem?_cons_succ, List.getElem?_cons_zero] at t0
  clear f1 HM0 HMay
  cases hmay : mayB p with
  | false =>
    have HV : Hid (mayL p sg ⟨sl, rows⟩ = false) := by show _ = _; unfold mayL; rw [hmay]; rfl
    clear hmay
    go_wp2
    go_ret
    exact ⟨ret_b HV.out.symm, HM1.out.fr⟩
  | true =>
    go_wp2_with fail
    refine (HTg.out _).mono ?_
    rintro e w2 ⟨rfl, f2⟩
    have HM2 := Lib.hid (HM1.out.keep f2)
    have p1 := HM2.out.bp.cell 1
    have s0 := HM2.out.bl.cell 0
    have s1 := HM2.out.bl.cell 1
    have zp := HM2.out.bp.lt
    have zs := HM2.out.bl.lt
    simp only [List.getElem?_toArray, List.getElem?_cons_succ, List.getElem?_cons_zero] at p1 s0 s1
    clear f2 HM1 HTg
    cases htg : tgB sg with
    | false =>
      have HV : Hid (mayL p sg ⟨sl, rows⟩ = false) := by show _ = _; unfold mayL; rw [hmay, htg]; rfl
      clear hmay htg
      go_wp2
      go_ret
      exact ⟨ret_b HV.out.symm, HM2.out.fr⟩
    | true =>
      have HV : Hid (mayL p sg ⟨sl, rows⟩ = (decide (0 ≤ sl) && decide (sl ≤ 12) && decide (lv.length = p.code.length) && (p.code.zip rows).all fun x => rwB p sg sl x.1 x.2)) := by
        show _ = _; unfold mayL; simp only; rw [hmay, htg, hlen]; simp only [Bool.true_and]
      by_cases hs : 0 ≤ sl ∧ sl ≤ 12 ∧ lv.length = p.code.length
      · obtain ⟨g0, g1, g2⟩ := hs
        have HV2 : Hid (mayL p sg ⟨sl, rows⟩ = (p.code.zip rows).all fun x => rwB p sg sl x.1 x.2) := by
          show _ = _; rw [HV.out, decide_eq_true g0, decide_eq_true g1, decide_eq_true g2]; rfl
        obtain ⟨t1, t2, t3⟩ := tg_facts htg
        obtain ⟨l1, l2, l3, l4⟩ := mayB_len hmay
        have HMAY := Lib.hid hmay
        have hl2 : ((lv.length : Nat) : Int) = (p.code.length : Int) := by omega
        rw [g2] at s1
        rw [g2] at HM2
        clear HV hmay htg hl2
        go_wp2
        go_loopw [39] (fun i wr => ∃ k : Nat, k ≤ p.code.length ∧ i = .int .i64 k ∧ Hid (rowTo p sg sl rows k) ∧ Hid (PmMem w wr (.slice A p.wide.length c) (.slice A' p.code.length c') sg sl (.slice Ar p.code.length cr))) (fun i _ => p.code.length - (intOf i).toNat)
        case atStart => exact ⟨0, by omega, rfl, rfl, HM2⟩
        case round =>
          obtain ⟨k, hk, rfl, hto, hm⟩ := hrel
          clear p1 s0 s1 zp zs t0 zt
          have p0 := hm.out.bp.cell 0
          have p1 := hm.out.bp.cell 1
          have t0 := hm.out.bt.cell 0
          have s0 := hm.out.bl.cell 0
          have zp := hm.out.bp.lt
          have zt := hm.out.bt.lt
          have zs := hm.out.bl.lt
          simp only [List.getElem?_toArray, List.getElem?_cons_succ, List.getElem?_cons_zero] at p0 p1 t0 s0
          by_cases hlt : k < p.code.length
          · have hx : p.code[k]? = some p.code[k] := List.getElem?_eq_getElem hlt
            have hltv : k < lv.length := by omega
            have hy : lv[k]? = some lv[k] := List.getElem?_eq_getElem hltv
            obtain ⟨bi, oi, rfl, _, j0, _⟩ := (HC.out.kept hm.out.fr (fun _ _ h => h)).ins hx
            obtain ⟨br, or_, hAr, _, r0, r1, r2, r3, r4, r5, r6, r7⟩ := (HRW.out.kept hm.out.fr (fun _ _ h => h)).rw hy
            subst hAr
            have hI := mayB_ins HMAY.out (List.mem_of_getElem? hx)
            have hxok := HOR.out wr hm.out.fr lv[k] (List.mem_of_getElem? hy)
            have hyr : rows[k]? = some lv[k].r := by rw [HROWS.out, List.getElem?_map, hy]; rfl
            have zr := cell_lt r0
            clear j0
            have hk0 : (0 : Int) ≤ (k : Int) := Int.natCast_nonneg _
            have hk1 : (k : Int) < (p.code.length : Int) := by omega
            have HX := Lib.hid (And.intro hx hyr)
            clear hx hy hyr
            generalize p.code[k] = i at *
            generalize lv[k] = rv at *
            obtain ⟨_, _, _, hvb, hva⟩ := hxok
            obtain ⟨r, vb, va⟩ := rv
            simp only at *
            obtain ⟨Ab, cb, evb, _⟩ := id hvb
            obtain ⟨Aa, ca, eva, _⟩ := id hva
            subst evb; subst eva
            have HP := H.out.kept hm.out.fr (fun _ _ h => h)
            have hf1 : Fr wr (wr.alloc (.cells #[.int .i64 r.d.k, .int .i64 r.d.n, .int .i64 r.a.k, .int .i64 r.a.n, .int .i64 r.b.k, .int .i64 r.b.n, .slice Ab r.before.length cb, .slice Aa r.after.length ca] 78)) := (Kept.refl _ wr).alloc _
            have HBR := Lib.hid (Blk.new wr 78 #[.int .i64 r.d.k, .int .i64 r.d.n, .int .i64 r.a.k, .int .i64 r.a.n, .int .i64 r.b.k, .int .i64 r.b.n, .slice Ab r.before.length cb, .slice Aa r.after.length ca])
            have HMR := Lib.hid (hm.out.keep hf1)
            have HRow := Lib.hid (fun (d : Nat) (os : Array Obj) => row_any R R' _ (.slice Ab r.before.length cb) (.slice Aa r.after.length ca) p sg sl i r (grow (redrawn (wr.alloc (.cells #[.int .i64 r.d.k, .int .i64 r.d.n, .int .i64 r.a.k, .int .i64 r.a.n, .int .i64 r.b.k, .int .i64 r.b.n, .slice Ab r.before.length cb, .slice Aa r.after.length ca] 78)) d) os)
              ((HP.kept hf1 (fun _ _ h => h)).kept (kept_of_regrown (S := fun _ => False) d os) (fun _ _ h => h)) ((hvb.kept hf1 (fun _ _ h => h)).kept (kept_of_regrown (S := fun _ => False) d os) (fun _ _ h => h)) ((hva.kept hf1 (fun _ _ h => h)).kept (kept_of_regrown (S := fun _ => False) d os) (fun _ _ h => h)) t1 t2 hI l1)
            unfold tgV In.val RwV.value at HRow
            simp only at HRow
            obtain ⟨bi2, oi2, hAi, _, i0, i1, i2, i3, i4, i5⟩ := (HC.out.kept HMR.out.fr (fun _ _ h => h)).ins HX.out.1
            simp only [Option.some.injEq, Addr.mk.injEq, and_true] at hAi
            obtain ⟨rfl, rfl⟩ := hAi
            have zi := cell_lt i0
            have p0 := HMR.out.bp.cell 0
            have p1 := HMR.out.bp.cell 1
            have t0 := HMR.out.bt.cell 0
            have s0 := HMR.out.bl.cell 0
            have b0 := HBR.out.cell 0
            have b1 := HBR.out.cell 1
            have b2 := HBR.out.cell 2
            have b3 := HBR.out.cell 3
            have b4 := HBR.out.cell 4
            have b5 := HBR.out.cell 5
            have b6 := HBR.out.cell 6
            have b7 := HBR.out.cell 7
            simp only [List.getElem?_toArray, List.getElem?_cons_succ, List.getElem?_cons_zero] at p0 p1 t0 s0 b0 b1 b2 b3 b4 b5 b6 b7
            have q_p0 := cell_regrown p0
            have q_p1 := cell_regrown p1
            have q_t0 := cell_regrown t0
            have q_s0 := cell_regrown s0
            have q_b0 := cell_regrown b0
            have q_b1 := cell_regrown b1
            have q_b2 := cell_regrown b2
            have q_b3 := cell_regrown b3
            have q_b4 := cell_regrown b4
            have q_b5 := cell_regrown b5
            have q_b6 := cell_regrown b6
            have q_b7 := cell_regrown b7
            have q_i0 := cell_regrown i0
            have q_i1 := cell_regrown i1
            have q_i2 := cell_regrown i2
            have q_i3 := cell_regrown i3
            have q_i4 := cell_regrown i4
            have q_i5 := cell_regrown i5
            cases hrow : rwB p sg sl i r with
            | false =>
              have HV3 : Hid (mayL p sg ⟨sl, rows⟩ = false) := by show _ = _; rw [HV2.out]; exact rowTo_no HX.out.1 HX.out.2 hrow
              rw [hrow] at HRow
              clear hrow HV2
              go_wp2
              refine wp_region_quiet_below (by kernel_rfl) (by kernel_rfl) ?_
              repeat (quiet_step (refine Calls.regrown_of ((HRow.out _ _).mono fun e w' h => ⟨h.1, h.2.below⟩)))
              refine wpQuiet_nil ?_
              intro _ hw2
              obtain ⟨pq, rfl⟩ := hw2
              go_wp2
              go_ret
              exact ⟨ret_b HV3.out.symm, HMR.out.fr.trans (kept_of_regrown _ _)⟩
            | true =>
              have HV3 := Lib.hid (rowTo_s hto.out HX.out.1 HX.out.2 hrow)
              rw [hrow] at HRow
              clear hrow HV2
              go_wp2
              refine wp_region_quiet_below (by kernel_rfl) (by kernel_rfl) ?_
              repeat (quiet_step (refine Calls.regrown_of ((HRow.out _ _).mono fun e w' h => ⟨h.1, h.2.below⟩)))
              refine wpQuiet_nil ?_
              intro _ hw2
              obtain ⟨pq, rfl⟩ := hw2
              go_wp2
              go_roundw
              case rel => exact ⟨k + 1, by omega, by go_num, HV3, Lib.hid (HMR.out.keep (kept_of_regrown _ _))⟩
              case measure => simp [intOf]; omega
          · obtain rfl : k = p.code.length := by omega
            have HV3 : Hid (mayL p sg ⟨sl, rows⟩ = true) := by show _ = _; rw [HV2.out]; exact rowTo_all hto.out
            go_wp2
            go_ret
            exact ⟨ret_b HV3.out.symm, hm.out.fr⟩
      · have HV2 : Hid (mayL p sg ⟨sl, rows⟩ = false) := by
          show _ = _
          rw [HV.out]
          by_cases e0 : 0 ≤ sl
          · by_cases e1 : sl ≤ 12
            · rw [decide_eq_false (fun e2 => hs ⟨e0, e1, e2⟩ : ¬ lv.length = p.code.length)]; simp
            · rw [decide_eq_false e1]; simp
          · rw [decide_eq_false e0]; simp
        rcases (by omega : sl < 0 ∨ (0 ≤ sl ∧ 12 < sl) ∨ (0 ≤ sl ∧ sl ≤ 12 ∧ ¬ (lv.length : Int) = (p.code.length : Int))) with g0 | ⟨g0, g1⟩ | ⟨g0, g1, g2⟩
        · clear HV hmay htg hs
          go_wp2
          go_ret
          exact ⟨ret_b HV2.out.symm, HM2.out.fr⟩
        · clear HV hmay htg hs
          go_wp2
          go_ret
          exact ⟨ret_b HV2.out.symm, HM2.out.fr⟩
        · have hne : ((lv.length : Int) != (p.code.length : Int)) = true := by simpa using g2
          clear HV hmay htg hs
          go_wp2
          go_ret
          exact ⟨ret_b HV2.out.symm, HM2.out.fr⟩
end Go.Proofs.Ytodmkjeankbieac

/- The walk of done.Run. -/
namespace Go.Proofs.Ytodmkjeankbieac
open Go.RowKit Go.Sort

theorem RdMv.old {w : World} {R : Nat → Prop} {v : Value} {l : List Mv} (h : RdMv w R v l) : RdMv w (fun b => b < w.heap.size) v l :=
  let ⟨A, c, e, hl, hr, ho⟩ := h
  ⟨A, c, e, hl, hr.old (by decide), ho⟩
theorem RwV.ok.old {w : World} {R : Nat → Prop} {x : RwV} (h : x.ok w R) : x.ok w (fun b => b < w.heap.size) := ⟨h.1, h.2.1, h.2.2.1, h.2.2.2.1.old, h.2.2.2.2.old⟩

/-- what is wrong with a run in places -/
def dWrong (p : Pg) (sg : Int) (l : Pd) (n : Nat) (steps : Int) : Int := if mayL p sg l then wrongV p n steps else 2
theorem dWrong_0 {p : Pg} {sg : Int} {l : Pd} {n : Nat} {steps : Int} (h : dWrong p sg l n steps = 0) : mayL p sg l = true ∧ wrongV p n steps = 0 := by
  unfold dWrong at h
  cases hm : mayL p sg l with
  | false => rw [hm] at h; simp at h
  | true => rw [hm] at h; exact ⟨rfl, h⟩

structure QD (w W : World) (c0 c1 c2 : Array Value) : Prop where
  b0 : Blk W w.heap.size 25 c0
  b1 : Blk W (w.heap.size + 1) 27 c1
  b2 : Blk W (w.heap.size + 2) 31 c2
  b3 : Blk W (w.heap.size + 3) 36 #[.int .i64 0, .slice none 0 0, .int .i64 0]
  fr : Fr w W
theorem QD.keep {w W W2 : World} {c0 c1 c2 : Array Value} (h : QD w W c0 c1 c2) (hk : Fr W W2) : QD w W2 c0 c1 c2 :=
  ⟨h.b0.kept hk (fun h => h), h.b1.kept hk (fun h => h), h.b2.kept hk (fun h => h), h.b3.kept hk (fun h => h), h.fr.trans hk⟩
theorem QD.start (w : World) (c0 c1 c2 : Array Value) : QD w ((((w.alloc (.cells c0 25)).alloc (.cells c1 27)).alloc (.cells c2 31)).alloc (.cells #[.int .i64 0, .slice none 0 0, .int .i64 0] 36)) c0 c1 c2 := by
  refine ⟨(((Blk.new w _ _).alloc _).alloc _).alloc _, ?_, ?_, ?_, ((((Kept.refl _ w).alloc _).alloc _).alloc _).alloc _⟩
  · have := ((Blk.new (w.alloc (.cells c0 25)) 27 c1).alloc (.cells c2 31)).alloc (.cells #[.int .i64 0, .slice none 0 0, .int .i64 0] 36)
    simpa using this
  · have := (Blk.new ((w.alloc (.cells c0 25)).alloc (.cells c1 27)) 31 c2).alloc (.cells #[.int .i64 0, .slice none 0 0, .int .i64 0] 36)
    simpa using this
  · have := Blk.new (((w.alloc (.cells c0 25)).alloc (.cells c1 27)).alloc (.cells c2 31)) 36 #[.int .i64 0, .slice none 0 0, .int .i64 0]
    simpa using this

def doneZ : Array Value := #[.int .u32 0, .int .u32 0, .int .u32 0, .int .u32 0, .int .u32 0, .int .u32 0, .int .u32 0, .int .u32 0, .int .u32 0, .int .u32 0, .int .u32 0, .int .u32 0, .int .u32 0, .int .u32 0, .int .u32 0, .int .u32 0,
  .int .u64 0, .int .u64 0, .int .u64 0, .int .u64 0, .int .u64 0, .int .u64 0, .int .u64 0, .int .u64 0, .int .u64 0, .int .u64 0, .int .u64 0, .int .u64 0]
theorem doneZ_st : doneZ = stC ⟨fun _ => 0, fun _ => 0⟩ := rfl
/-- the world with the four new variables -/
def doneW (w2 : World) (ins : Value) : World :=
  (((w2.alloc (.cells doneZ 73)).alloc (.cells #[.pointer (some ⟨w2.heap.size, 0, none⟩)] 70)).alloc
    (.cells #[.int .i64 0, .slice none 0 0, .int .i64 0, .int .i64 0, ins] 62)).alloc (.cells #[.pointer (some ⟨w2.heap.size + 2, 0, none⟩)] 60)

/-- what holds while the program runs -/
def DoneI (w0 : World) (br bp bl bv bm bs g : Nat) (p : Pg) (A1 : Option Addr) (c1 : Nat) (A : Option Addr) (c : Nat) (sl : Int) (Al : Option Addr) (cl : Nat) (lv : List RwV) (w : World) (x : Sh × Sto) : Prop :=
  (∃ vo, Mc w g w0.heap.size (unF x.1) vo) ∧ DClo w bp bl bv bm bs g w0.heap.size p A1 c1 A c sl Al cl lv x.2 ∧ StOk x.2 ∧ Fr w0 w ∧ Blk w br 36 #[.int .i64 0, .slice none 0 0, .int .i64 0]

theorem DoneI.step {w0 w : World} {br bp bl bv bm bs g n : Nat} {p : Pg} {A1 : Option Addr} {c1 : Nat} {A : Option Addr} {c : Nat} {sl : Int} {Al : Option Addr} {cl : Nat} {lv : List RwV} {sg : Int} {l : Pd} {ins : List Int} {x : Sh × Sto}
    (h : DoneI w0 br bp bl bv bm bs g p A1 c1 A c sl Al cl lv w x) (hg : w0.heap.size ≤ g) (hbs : w0.heap.size ≤ bs) (hm : mayL p sg l = true) (hrows : l.rows = lv.map (·.r)) (ho : ∀ m ∈ p.code, m.ok) (hi : ∀ n ∈ ins, 0 ≤ n ∧ n < 4294967296)
    (hn : n ≤ 100000) (hat : At p.code (mPlaces p l.rows) (sh0 ins, ⟨fun _ => 0, fun _ => 0⟩) n x) (h0 : x.1.state = 0) :
    Calls Try.prog 21 (#[.int .i64 (x.1.pc : Int)] ++ #[.pointer (some ⟨bp, 0, none⟩), .pointer (some ⟨bl, 0, none⟩), .pointer (some ⟨bv, 0, none⟩), .pointer (some ⟨bm, 0, none⟩)]) w fun e w' => e = .returned (.tuple #[]) ∧
      DoneI w0 br bp bl bv bm bs g p A1 c1 A c sl Al cl lv w' (mStep p.code (mPlaces p l.rows) x) := by
  obtain ⟨⟨vo, hM⟩, hC, hS, hF, hR⟩ := h
  obtain ⟨hmb, htg, hs0, hs1, hlen⟩ := mayL_facts hm
  obtain ⟨l1, l2, l3, l4⟩ := mayB_len hmb
  have hpc := hat.st0 h0
  have hin : ∀ y ∈ x.1.ins, 0 ≤ y ∧ y < 4294967296 := fun y hy => hi y (hat.ins y hy)
  have hout := hat.out rfl
  have hle := hat.le
  have hlv : lv.length = p.code.length := by rw [← hlen, hrows, List.length_map]
  have hy : lv[x.1.pc]? = some (lv[x.1.pc]'(by omega)) := List.getElem?_eq_getElem _
  have hyo := hC.ro _ (List.mem_of_getElem? hy)
  have hye : rwAt l.rows x.1.pc = (lv[x.1.pc]'(by omega)).r := by rw [rwAt_get (by omega)]; simp [hrows]
  generalize lv[x.1.pc]'(by omega) = y at *
  have hI := mayB_ins hmb (inAt_mem hpc)
  obtain ⟨_, _, _, hc0⟩ := ins_fields hI l1
  have hok := insOk hI
  have hrb := mayL_row hm hpc
  rw [hye] at hrb
  have h16 : sg ≤ 16 := by unfold tgB at htg; simp at htg; omega
  have hbn : ∀ m ∈ y.r.before, m.n < 4294967296 := fun m hm => by obtain ⟨_, _, _, ⟨_, _, _, _, _, ho⟩, _⟩ := hyo; exact (ho m hm).2.2
  have han : ∀ m ∈ y.r.after, m.n < 4294967296 := fun m hm => by obtain ⟨_, _, _, _, ⟨_, _, _, _, _, ho⟩⟩ := hyo; exact (ho m hm).2.2
  have hh := has_rw hrb hbn han h16 hs1
  have hS1 := hS.moves hh.bef
  have h5 := fun h => pair_lt hS1 hrb hok h
  have hn32 := (ho _ (inAt_mem hpc)).2.2.2.2.2
  refine (Done1_any bp bl bv bm bs g w0.heap.size p A1 c1 A c sl Al cl lv x.2 (unF x.1) vo w hC hS hM hg hbs hpc hlv l4 hok.kn hn32 hc0 y hy hh h5 (by show x.1.steps ≤ 100000; omega) (by show x.1.out.length ≤ 100000; omega) hin).mono ?_
  rintro e w' ⟨rfl, ⟨vo', hM'⟩, hC', hk⟩
  have e2 : (mStep p.code (mPlaces p l.rows) x).2 = movesS (if gvs (inAt p.code x.1.pc).op then putS (movesS x.2 y.r.before) y.r.d (giveV (inAt p.code x.1.pc) (getS (movesS x.2 y.r.before) y.r.a) (getS (movesS x.2 y.r.before) y.r.b) (x.1.ins.headD 0)) else movesS x.2 y.r.before) y.r.after := by
    rw [← hye]; rfl
  refine ⟨rfl, ⟨vo', ?_⟩, ?_, ?_, ?_, ?_⟩
  · have := raw_step (code := p.code) h0 (getS (movesS x.2 y.r.before) y.r.a)
    show Mc w' g w0.heap.size (unF (shStep p.code x.1 (getS (movesS x.2 (rwAt l.rows x.1.pc).before) (rwAt l.rows x.1.pc).a))) vo'
    rw [hye, ← this]
    exact hM'
  · rw [e2]; exact hC'
  · rw [e2]
    refine StOk.moves ?_ hh.aft
    split
    · rename_i hgv
      exact hS1.put _ (giveV_num hok.kn hgv (hS1.get _) (hS1.get _) h5 hn32 (head_num hin))
    · exact hS1
  · refine hF.then hk fun i hi hs => ?_
    rcases hs with e | e | e
    · omega
    · omega
    · have := (own_lt hM.ow e).1; omega
  · refine hR.kept hk ?_
    obtain ⟨_, _, hg, _⟩ := hM.ex
    rintro (e | e | e)
    · exact hR.ne_ hC.sb (by decide) e
    · exact hR.ne_ hg (by decide) e
    · exact own_blk_ne hM.ow hR (by decide) e

set_option maxHeartbeats 4000000 in
set_option maxRecDepth 100000 in
theorem done_any (R R' : Nat → Prop) (v vl : Value) (p : Pg) (sg : Int) (l : Pd) (Ai : Option Addr) (ins : List Int) (ci : Nat) (steps : Int) (w : World) (h : RdPg w R v p) (hL : RdPd w R' vl l) (hl : ins.length ≤ ci) (hc : ci ≤ maxLen) (hr : Reads w R 1 Ai ins.length (u32s ins)) (hi : ∀ n ∈ ins, 0 ≤ n ∧ n < 4294967296) :
    Calls Try.prog 6 #[v, tgV sg, vl, .slice Ai ins.length ci, .int .i64 steps] w (RunPost w (dWrong p sg l ins.length steps) (doneV p l.rows ins steps.toNat)) := by
  have H := Lib.hid h
  have HL := Lib.hid hL
  obtain ⟨vw, vc, rfl, ⟨A1, c1, rfl, hl1, hr1⟩, ⟨A, c, rfl, hl2, hr2, ho2⟩⟩ := h
  obtain ⟨vr, lv, rfl, hsl, ⟨Al, cl, rfl, hlr, hrr, hor⟩, hrows⟩ := hL
  have HC := Lib.hid (hr2.old (by decide))
  have HRL := Lib.hid (hrr.old (by decide))
  have HRO := Lib.hid (fun x hx => (hor x hx).old)
  have HROWS := Lib.hid hrows
  have HO := Lib.hid ho2
  have HINS := Lib.hid (hr.old (by decide))
  have HI := Lib.hid hi
  unfold maxLen at hl1 hl2 hc hlr
  clear hr1 hr2 ho2 hr hi hrr hor hrows hsl
  have HW := Lib.hid (fun w2 (hf : Fr w w2) => Wrong_any R _ p Ai ins.length ci steps w2 (H.out.kept hf (fun _ _ h => h)) (by omega))
  have HMy := Lib.hid (fun w2 (hf : Fr w w2) => placeMay_any R R' _ _ p sg l w2 (H.out.kept hf (fun _ _ h => h)) (HL.out.kept hf (fun _ _ h => h)))
  have HQ := Lib.hid (QD.start w #[.slice A1 p.wide.length c1, .slice A p.code.length c] #[.int .i64 sg] #[.int .i64 l.slots, .slice Al lv.length cl])
  unfold tgV at HMy ⊢
  go_enter Try.func6, Try.ntmps6
  go_wp2_with fail
  refine (HMy.out _ HQ.out.fr).mono ?_
  rintro e w2 ⟨rfl, f2⟩
  have HQ2 := Lib.hid (HQ.out.keep f2)
  clear HQ f2 HMy
  have q0 := HQ2.out.b0.cell 0
  have q1 := HQ2.out.b0.cell 1
  have x0 := HQ2.out.b3.cell 0
  have x1 := HQ2.out.b3.cell 1
  have x2 := HQ2.out.b3.cell 2
  have y0 := HQ2.out.b3.frozen 0
  have y1 := HQ2.out.b3.frozen 1
  have y2 := HQ2.out.b3.frozen 2
  simp only [List.getElem?_toArray, List.getElem?_cons_succ, List.getElem?_cons_zero] at q0 q1 x0 x1 x2
  have z0 := HQ2.out.b0.lt
  have z3 := HQ2.out.b3.lt
  cases hm : mayL p sg l with
  | false =>
    have hW : dWrong p sg l ins.length steps = 2 := by unfold dWrong; rw [hm]; rfl
    have HWE := Lib.hid hW
    clear hm hW
    go_wp2
    refine bodyPost_ret (v := .tuple #[.agg #[.int .i64 0, .slice none 0 0, .int .i64 0], .int .i64 2]) ?_ rfl ?_
    · simp [results, Try.results6, go_sem, x0, x1, x2]
    · show RunPost _ _ _ _ _
      rw [HWE.out]
      exact ⟨((HQ2.out.fr.setCell (fun e => by simp only at e; omega) _).setCell (fun e => by simp only at e; omega) _).setCell (fun e => by simp only at e; omega) _, Or.inl ⟨by decide, rfl⟩⟩
  | true =>
    have hWE : dWrong p sg l ins.length steps = wrongV p ins.length steps := by unfold dWrong; rw [hm]; rfl
    have HWE := Lib.hid hWE
    have HM := Lib.hid hm
    clear hm hWE
    go_wp2_with fail
    refine (HW.out _ HQ2.out.fr).mono ?_
    rintro e w3 ⟨rfl, f3⟩
    have HQ3 := Lib.hid (HQ2.out.keep f3)
    clear HQ2 f3 HW q0 q1 x0 x1 x2 y0 y1 y2 z0 z3
    have q0 := HQ3.out.b0.cell 0
    have q1 := HQ3.out.b0.cell 1
    have x0 := HQ3.out.b3.cell 0
    have x1 := HQ3.out.b3.cell 1
    have x2 := HQ3.out.b3.cell 2
    have y0 := HQ3.out.b3.frozen 0
    have y1 := HQ3.out.b3.frozen 1
    have y2 := HQ3.out.b3.frozen 2
    simp only [List.getElem?_toArray, List.getElem?_cons_succ, List.getElem?_cons_zero] at q0 q1 x0 x1 x2
    have z0 := HQ3.out.b0.lt
    have z3 := HQ3.out.b3.lt
    by_cases hw : wrongV p ins.length steps = 0
    · have HZ := Lib.hid hw
      obtain ⟨_, hn40, hs0, hs1⟩ := wrong_0 hw
      obtain ⟨hw1, hw2, hc1, hc2⟩ := mayB_len (mayL_facts HM.out).1
      rw [hw]
      obtain ⟨n, rfl⟩ : ∃ n : Nat, steps = (n : Int) := ⟨steps.toNat, by omega⟩
      have hB0 : Blk (doneW w3 (.slice Ai ins.length ci)) w.heap.size 25 #[.slice A1 p.wide.length c1, .slice A p.code.length c] := (((HQ3.out.b0.alloc _).alloc _).alloc _).alloc _
      have hB2 : Blk (doneW w3 (.slice Ai ins.length ci)) (w.heap.size + 2) 31 #[.int .i64 l.slots, .slice Al lv.length cl] := (((HQ3.out.b2.alloc _).alloc _).alloc _).alloc _
      have hB3 : Blk (doneW w3 (.slice Ai ins.length ci)) (w.heap.size + 3) 36 #[.int .i64 0, .slice none 0 0, .int .i64 0] := (((HQ3.out.b3.alloc _).alloc _).alloc _).alloc _
      have hS : Blk (doneW w3 (.slice Ai ins.length ci)) w3.heap.size 73 (stC ⟨fun _ => 0, fun _ => 0⟩) := by
        rw [← doneZ_st]
        exact ((((Blk.new w3 _ _).alloc _).alloc _).alloc _)
      have hV : Blk (doneW w3 (.slice Ai ins.length ci)) (w3.heap.size + 1) 70 #[.pointer (some ⟨w3.heap.size, 0, none⟩)] := by
        have := ((Blk.new (w3.alloc (.cells doneZ 73)) 70 #[.pointer (some ⟨w3.heap.size, 0, none⟩)]).alloc
          (.cells #[.int .i64 0, .slice none 0 0, .int .i64 0, .int .i64 0, .slice Ai ins.length ci] 62)).alloc (.cells #[.pointer (some ⟨w3.heap.size + 2, 0, none⟩)] 60)
        simpa [doneW] using this
      have hMc : Blk (doneW w3 (.slice Ai ins.length ci)) (w3.heap.size + 2) 62 #[.int .i64 0, .slice none 0 0, .int .i64 0, .int .i64 0, .slice Ai ins.length ci] := by
        have := (Blk.new ((w3.alloc (.cells doneZ 73)).alloc (.cells #[.pointer (some ⟨w3.heap.size, 0, none⟩)] 70)) 62 #[.int .i64 0, .slice none 0 0, .int .i64 0, .int .i64 0, .slice Ai ins.length ci]).alloc (.cells #[.pointer (some ⟨w3.heap.size + 2, 0, none⟩)] 60)
        simpa [doneW] using this
      have hMb : Blk (doneW w3 (.slice Ai ins.length ci)) (w3.heap.size + 3) 60 #[.pointer (some ⟨w3.heap.size + 2, 0, none⟩)] := by
        have := Blk.new (((w3.alloc (.cells doneZ 73)).alloc (.cells #[.pointer (some ⟨w3.heap.size, 0, none⟩)] 70)).alloc (.cells #[.int .i64 0, .slice none 0 0, .int .i64 0, .int .i64 0, .slice Ai ins.length ci] 62)) 60 #[.pointer (some ⟨w3.heap.size + 2, 0, none⟩)]
        simpa [doneW] using this
      have hF3 : Fr w (doneW w3 (.slice Ai ins.length ci)) := ((((HQ3.out.fr.alloc _).alloc _).alloc _).alloc _)
      have c0 := hB0.cell 1
      simp only [List.getElem?_toArray, List.getElem?_cons_succ, List.getElem?_cons_zero] at c0
      unfold doneW doneZ at c0
      have hmf : ∀ (fn : Fn) (first cap : Array Value) (w : World), (Instr.makeFunc fn first cap).run Try.prog w = .ok (.func fn first cap) w := fun _ _ _ _ => rfl
      have hww := HQ3.out.fr.size
      clear hw
      have H3 := Lib.hid (And.intro hB0 (And.intro hB2 (And.intro hB3 (And.intro hS (And.intro hV (And.intro hMc (And.intro hMb hF3)))))))
      clear hB0 hB2 hB3 hS hV hMc hMb hF3
      go_wp2_with fail
      obtain ⟨hB0, hB2, hB3, hS, hV, hMc, hMb, hF3⟩ := H3.out
      refine (Go_any 21 (fun _ _ => by kernel_rfl) #[.pointer (some ⟨w.heap.size, 0, none⟩), .pointer (some ⟨w.heap.size + 1 + 1, 0, none⟩), .pointer (some ⟨w3.heap.size + 1, 0, none⟩), .pointer (some ⟨w3.heap.size + 1 + 1 + 1, 0, none⟩)]
        (w3.heap.size + 2) w.heap.size n c A p.code (mPlaces p l.rows) (sh0 ins, ⟨fun _ => 0, fun _ => 0⟩)
        (DoneI w (w.heap.size + 3) w.heap.size (w.heap.size + 2) (w3.heap.size + 1) (w3.heap.size + 3) w3.heap.size (w3.heap.size + 2) p A1 c1 A c l.slots Al cl lv) (fun _ _ h => h.1)
        (fun wr x h ha h0 _ => h.step (by omega) hww HM.out HROWS.out HO.out HI.out (by omega) ha h0) (doneW w3 (.slice Ai ins.length ci)) (by omega) (by omega) (by omega)
        ⟨⟨.slice none 0 0, ⟨rfl, Or.inl ⟨rfl, rfl⟩⟩, Ai, ci, hMc, hl, hc, HINS.out.kept hF3 (fun _ _ h => h)⟩, ⟨hB0, hB2, hV, hMb, hS, HC.out.kept hF3 (fun _ _ h => h), HRL.out.kept hF3 (fun _ _ h => h), fun x hx => (HRO.out x hx).kept hF3 (fun _ _ h => h)⟩, StOk.zero, hF3, hB3⟩
        (At.start _ ins hc1)).mono ?_
      rintro e w4 ⟨rfl, hpost⟩
      obtain ⟨w5, vo, ⟨_, hC5, _, hF5, hR5⟩, hM4, hk⟩ := hpost
      have hout : (doneV p l.rows ins n).out.length ≤ n := by
        have := mRun_outlen (code := p.code) (M := mPlaces p l.rows) n (sh0 ins, ⟨fun _ => 0, fun _ => 0⟩)
        simpa [sh0, doneV] using this
      have hM4' : Mc w4 (w3.heap.size + 2) w.heap.size (doneV p l.rows ins n) vo := hM4
      clear hM4 hB0 hB2 hB3 hS hV hMc hMb hF3 H3 c0 q0 q1 x0 x1 x2 y0 y1 y2 z0 HQ3
      obtain ⟨how, A5, c5, hg5, _, _, _⟩ := id hM4'
      have hm4 := hC5.mb.kept hk (by omega)
      have hs4 := hR5.kept hk (by omega)
      have HF4 := Lib.hid (hF5.then hk (fun i hi e => by omega))
      have m0 := hm4.cell 0
      have q0 := hg5.cell 0
      have q1 := hg5.cell 1
      have q2 := hg5.cell 2
      have s0 := hs4.cell 0
      have s1 := hs4.cell 1
      have s2 := hs4.cell 2
      have y0 := hs4.frozen 0
      have y1 := hs4.frozen 1
      have y2 := hs4.frozen 2
      have z2 := hs4.lt
      simp only [List.getElem?_toArray, List.getElem?_cons_succ, List.getElem?_cons_zero] at m0 q0 q1 q2 s0 s1 s2
      have HX := Lib.hid how
      have HS4 := Lib.hid hs4
      obtain ⟨A9, c9, rfl, _, hr9⟩ := own_reads how
      have HR9 := Lib.hid hr9
      clear hM4' how hg5 hm4 hs4 hk hC5 hF5 hR5 hr9
      go_wp2
      refine bodyPost_ret (v := .tuple #[.agg #[.int .i64 ((doneV p l.rows ins n).state : Int), .slice A9 (doneV p l.rows ins n).out.length c9, .int .i64 ((doneV p l.rows ins n).steps : Int)], .int .i64 0]) ?_ rfl ?_
      · simp [results, Try.results6, go_sem, s0, s1, s2]
      · have hK : Kept (fun b => b = w.heap.size + 3) w4 (((w4.setCell ⟨w.heap.size + 3, 0, none⟩ (.int .i64 ((doneV p l.rows ins n).state : Int))).setCell ⟨w.heap.size + 3, 1, none⟩ (.slice A9 (doneV p l.rows ins n).out.length c9)).setCell ⟨w.heap.size + 3, 2, none⟩ (.int .i64 ((doneV p l.rows ins n).steps : Int))) :=
          (((Kept.refl (fun b => b = w.heap.size + 3) w4).setCell (p := ⟨w.heap.size + 3, 0, none⟩) (fun _ => rfl) _).setCell (p := ⟨w.heap.size + 3, 1, none⟩) (fun _ => rfl) _).setCell (p := ⟨w.heap.size + 3, 2, none⟩) (fun _ => rfl) _
        refine ⟨((HF4.out.setCell (fun e => by simp only at e; omega) _).setCell (fun e => by simp only at e; omega) _).setCell (fun e => by simp only at e; omega) _, Or.inr ⟨by rw [HWE.out]; exact HZ.out, _, rfl, A9, c9, rfl, by show (doneV p l.rows ins n).out.length ≤ 100000; omega, ?_⟩⟩
        exact (HR9.out.kept hK (fun b hb e => own_blk_ne HX.out HS4.out (by decide) (e ▸ hb.2))).more (fun b hb => hb.1)
    · have hne : (wrongV p ins.length steps != 0) = true := by simpa using hw
      have HZ := Lib.hid hw
      clear hw
      generalize wrongV p ins.length steps = wr at *
      go_wp2
      refine bodyPost_ret (v := .tuple #[.agg #[.int .i64 0, .slice none 0 0, .int .i64 0], .int .i64 wr]) ?_ rfl ?_
      · simp [results, Try.results6, go_sem, x0, x1, x2]
      · show RunPost _ _ _ _ _
        rw [HWE.out]
        exact ⟨((HQ3.out.fr.setCell (fun e => by simp only at e; omega) _).setCell (fun e => by simp only at e; omega) _).setCell (fun e => by simp only at e; omega) _, Or.inl ⟨HZ.out, rfl⟩⟩
end Go.Proofs.Ytodmkjeankbieac

/- The walks of the reference of chapter 2: ins, May. -/
namespace Go.Proofs.Ytodmkjeankbieac
open Go.RowKit Go.Sort

theorem insR_k0 {p : Pg} {i : In} (h : known i.op = false) : insR p i = false := by unfold insR; simp [h]
theorem insR_n0 {p : Pg} {i : In} (h : i.op ≠ 1) (hn : i.n ≠ 0) : insR p i = false := by unfold insR; simp [h, hn]
theorem insR_f0 {p : Pg} {i : In} (h : fieldR p.wide (gvs i.op) i.d = false) : insR p i = false := by unfold insR; simp [h]
theorem insR_f1 {p : Pg} {i : In} (h : fieldR p.wide (decide (0 < many i.op)) i.a = false) : insR p i = false := by unfold insR; simp [h]
theorem insR_f2 {p : Pg} {i : In} (h : fieldR p.wide (decide (1 < many i.op)) i.b = false) : insR p i = false := by unfold insR; simp [h]
theorem insR_rest {p : Pg} {i : In} (hk : known i.op = true) (hn : i.op = 1 ∨ i.n = 0) (h0 : fieldR p.wide (gvs i.op) i.d = true) (h1 : fieldR p.wide (decide (0 < many i.op)) i.a = true) (h2 : fieldR p.wide (decide (1 < many i.op)) i.b = true) :
    insR p i = ((if i.op = 8 ∨ i.op = 9 then inB i.c p.code.length else decide (i.c = 0)) && widthsR p i) := by
  unfold insR
  have e : (decide (i.op = 1) || decide (i.n = 0)) = true := by simpa using hn
  rw [hk, e, h0, h1, h2]; simp

structure RfMem (w wr : World) (vw vc : Value) (i : In) (g m0 m1 : Bool) : Prop where
  im : InsMem w wr vw vc i
  f : Blk wr (w.heap.size + 2) 3 #[.int .i64 i.d, .int .i64 i.a, .int .i64 i.b]
  t : Blk wr (w.heap.size + 3) 4 #[.bool g, .bool m0, .bool m1]
theorem RfMem.start (w : World) (vw vc : Value) (op d a b c : Int) (n : Nat) (g m0 m1 : Bool) :
    RfMem w (((((w.alloc (.cells #[vw, vc] 25)).alloc (.cells #[.int .i64 op, .int .i64 d, .int .i64 a, .int .i64 b, .int .i64 c, .int .u32 n] 66)).alloc (.cells #[.int .i64 d, .int .i64 a, .int .i64 b] 3)).alloc
      (.cells #[.bool g, .bool m0, .bool m1] 4)).drew) vw vc ⟨op, d, a, b, c, n⟩ g m0 m1 := by
  have h := InsMem.start w vw vc op d a b c n
  generalize hW : ((w.alloc (.cells #[vw, vc] 25)).alloc (.cells #[.int .i64 op, .int .i64 d, .int .i64 a, .int .i64 b, .int .i64 c, .int .u32 n] 66)) = W at h
  have hs : W.heap.size = w.heap.size + 2 := by rw [← hW]; simp
  refine ⟨((h.alloc _).alloc _).drew, ?_, ?_⟩
  · have := ((Blk.new W 3 #[.int .i64 d, .int .i64 a, .int .i64 b]).alloc (.cells #[.bool g, .bool m0, .bool m1] 4)).drew
    rwa [hs] at this
  · have := (Blk.new (W.alloc (.cells #[.int .i64 d, .int .i64 a, .int .i64 b] 3)) 4 #[.bool g, .bool m0, .bool m1]).drew
    simp only [World.size_alloc, hs] at this
    exact this

/-- what the loop over the fields holds -/
def RfRel (p : Pg) (d a b : Int) (g m0 m1 : Bool) (k : Int) : Prop :=
  k = 0 ∨ (k = 1 ∧ fieldR p.wide g d = true) ∨ (k = 2 ∧ fieldR p.wide g d = true ∧ fieldR p.wide m0 a = true) ∨ (k = 3 ∧ fieldR p.wide g d = true ∧ fieldR p.wide m0 a = true ∧ fieldR p.wide m1 b = true)
theorem field_cases (wide : List Bool) (g : Bool) (n : Int) : (g = true ∧ 0 ≤ n ∧ n < wide.length ∧ fieldR wide g n = true) ∨ (g = true ∧ n < 0 ∧ fieldR wide g n = false) ∨ (g = true ∧ 0 ≤ n ∧ (wide.length : Int) ≤ n ∧ fieldR wide g n = false) ∨
    (g = false ∧ n = 0 ∧ fieldR wide g n = true) ∨ (g = false ∧ (n != 0) = true ∧ fieldR wide g n = false) := by
  unfold fieldR inB
  cases g with
  | true =>
    by_cases h0 : 0 ≤ n
    · by_cases h1 : n < wide.length
      · exact Or.inl ⟨rfl, h0, h1, by simp [h0, h1]⟩
      · exact Or.inr (Or.inr (Or.inl ⟨rfl, h0, by omega, by simp [h1]⟩))
    · exact Or.inr (Or.inl ⟨rfl, by omega, by simp [h0]⟩)
  | false =>
    by_cases h : n = 0
    · exact Or.inr (Or.inr (Or.inr (Or.inl ⟨rfl, h, by simp [h]⟩)))
    · exact Or.inr (Or.inr (Or.inr (Or.inr ⟨rfl, by simpa using h, by simp [h]⟩)))
theorem field_in {wide : List Bool} {g : Bool} {n : Int} (h : fieldR wide g n = true) (hg : g = true) : 0 ≤ n ∧ n < wide.length := by
  unfold fieldR inB at h; rw [if_pos hg] at h; exact of_decide_eq_true h
theorem jump_cases (op : Int) : (op == 8) = true ∨ ((op == 8) = false ∧ (op == 9) = true) ∨ ((op == 8) = false ∧ (op == 9) = false) := by
  cases h8 : (op == 8) <;> cases h9 : (op == 9) <;> simp
theorem rest_jump {p : Pg} {op d a b c : Int} {n : Nat} {W : Bool} (h : insR p ⟨op, d, a, b, c, n⟩ = ((if op = 8 ∨ op = 9 then inB c p.code.length else decide (c = 0)) && W)) (hj : op = 8 ∨ op = 9) :
    (0 ≤ c ∧ c < p.code.length → insR p ⟨op, d, a, b, c, n⟩ = W) ∧ (c < 0 ∨ (p.code.length : Int) ≤ c → insR p ⟨op, d, a, b, c, n⟩ = false) := by
  rw [h, if_pos hj]
  unfold inB
  exact ⟨fun hc => by rw [decide_eq_true hc]; rfl, fun hc => by rw [decide_eq_false (by omega)]; rfl⟩
theorem rest_nojump {p : Pg} {op d a b c : Int} {n : Nat} {W : Bool} (h : insR p ⟨op, d, a, b, c, n⟩ = ((if op = 8 ∨ op = 9 then inB c p.code.length else decide (c = 0)) && W)) (h8 : (op == 8) = false) (h9 : (op == 9) = false) :
    (c = 0 → insR p ⟨op, d, a, b, c, n⟩ = W) ∧ (c ≠ 0 → insR p ⟨op, d, a, b, c, n⟩ = false) := by
  rw [beq_eq_false_iff_ne] at h8 h9
  rw [h, if_neg (by omega)]
  exact ⟨fun hc => by rw [decide_eq_true hc]; rfl, fun hc => by rw [decide_eq_false hc]; rfl⟩
theorem RfMem.cf {w wr : World} {vw vc : Value} {op d a b c : Int} {n : Nat} {g m0 m1 : Bool} (h : RfMem w wr vw vc ⟨op, d, a, b, c, n⟩ g m0 m1) : wr.cell? ⟨w.heap.size + 2, 0, none⟩ = some (.int .i64 d) ∧ wr.cell? ⟨w.heap.size + 2, 1, none⟩ = some (.int .i64 a) ∧
    wr.cell? ⟨w.heap.size + 2, 2, none⟩ = some (.int .i64 b) ∧ wr.cell? ⟨w.heap.size + 3, 0, none⟩ = some (.bool g) ∧ wr.cell? ⟨w.heap.size + 3, 1, none⟩ = some (.bool m0) ∧ wr.cell? ⟨w.heap.size + 3, 2, none⟩ = some (.bool m1) := by
  have c0 := h.f.cell 0
  have c1 := h.f.cell 1
  have c2 := h.f.cell 2
  have c3 := h.t.cell 0
  have c4 := h.t.cell 1
  have c5 := h.t.cell 2
  simp only [List.getElem?_toArray, List.getElem?_cons_succ, List.getElem?_cons_zero] at c0 c1 c2 c3 c4 c5
  exact ⟨c0, c1, c2, c3, c4, c5⟩

end Go.Proofs.Ytodmkjeankbieac

/- The walk of the reference's May. -/
namespace Go.Proofs.Ytodmkjeankbieac
open Go.RowKit Go.Sort

def lenB (p : Pg) : Bool := decide (1 ≤ p.wide.length) && decide (p.wide.length ≤ 12) && decide (1 ≤ p.code.length) && decide (p.code.length ≤ 40)
theorem mayR_len {p : Pg} (h : lenB p = false) : mayR p = false := by unfold mayR lenB at *; rw [h]; rfl
theorem mayR_all {p : Pg} (h : lenB p = true) : mayR p = p.code.all (insR p) := by unfold mayR lenB at *; rw [h]; rfl

end Go.Proofs.Ytodmkjeankbieac

/- The walks of the reference of chapter 3: Wrong, Gives, Next. -/
namespace Go.Proofs.Ytodmkjeankbieac
open Go.RowKit Go.Sort

theorem stV_10 {len pc : Nat} {i : In} {a : Int} (h : i.op = 10) : pcV i pc a = pc + 1 ∧ stV len i pc a = 1 := by
  unfold stV pcV; rw [if_neg (by omega), if_pos h]; exact ⟨rfl, rfl⟩
end Go.Proofs.Ytodmkjeankbieac

/- The walks of the reference of chapter 3: Same, Next. -/
namespace Go.Proofs.Ytodmkjeankbieac
open Go.RowKit Go.Sort

theorem sh_ne {x y : Sh} (h : x.state ≠ y.state ∨ x.steps ≠ y.steps ∨ x.out.length ≠ y.out.length) : shEq x y = false := by
  unfold shEq
  apply decide_eq_false
  rintro ⟨h1, h2, h3⟩
  rcases h with h | h | h
  · exact h h1
  · exact h h2
  · exact h (by rw [h3])
theorem sh_end {x y : Sh} (h1 : x.state = y.state) (h2 : x.steps = y.steps) (h3 : x.out.length = y.out.length) (h : ∀ j, j < x.out.length → x.out[j]? = y.out[j]?) : shEq x y = true := by
  unfold shEq
  apply decide_eq_true
  refine ⟨h1, h2, List.ext_getElem? fun j => ?_⟩
  by_cases hj : j < x.out.length
  · exact h j hj
  · rw [List.getElem?_eq_none (by omega), List.getElem?_eq_none (by omega)]
theorem sh_no {x y : Sh} {j : Nat} (hj : x.out[j]? ≠ y.out[j]?) : shEq x y = false := by
  unfold shEq
  apply decide_eq_false
  rintro ⟨_, _, h3⟩
  exact hj (by rw [h3])

set_option maxHeartbeats 1000000 in
set_option maxRecDepth 100000 in
theorem refShSame_any (R R' : Nat → Prop) (v v' : Value) (x y : Sh) (w : World) (h : RdSh w R v x) (h' : RdSh w R' v' y) :
    Calls Try.prog 7 #[v, v'] w fun e w' => e = .returned (.bool (shEq x y)) ∧ Fr w w' := by
  obtain ⟨A, c, rfl, hl, hr⟩ := h
  obtain ⟨A', c', rfl, hl', hr'⟩ := h'
  have HR := Lib.hid hr
  have HR' := Lib.hid hr'
  clear hr hr'
  have HB0 := Lib.hid ((Blk.new w 36 #[.int .i64 (x.state : Int), .slice A x.out.length c, .int .i64 (x.steps : Int)]).alloc (.cells #[.int .i64 (y.state : Int), .slice A' y.out.length c', .int .i64 (y.steps : Int)] 36))
  have HB1 : Hid (Blk ((w.alloc (.cells #[.int .i64 (x.state : Int), .slice A x.out.length c, .int .i64 (x.steps : Int)] 36)).alloc (.cells #[.int .i64 (y.state : Int), .slice A' y.out.length c', .int .i64 (y.steps : Int)] 36)) (w.heap.size + 1) 36
      #[.int .i64 (y.state : Int), .slice A' y.out.length c', .int .i64 (y.steps : Int)]) := by
    have := Blk.new (w.alloc (.cells #[.int .i64 (x.state : Int), .slice A x.out.length c, .int .i64 (x.steps : Int)] 36)) 36 #[.int .i64 (y.state : Int), .slice A' y.out.length c', .int .i64 (y.steps : Int)]
    show Blk _ _ _ _
    simpa using this
  have HF : Hid (Fr w ((w.alloc (.cells #[.int .i64 (x.state : Int), .slice A x.out.length c, .int .i64 (x.steps : Int)] 36)).alloc (.cells #[.int .i64 (y.state : Int), .slice A' y.out.length c', .int .i64 (y.steps : Int)] 36))) := ((Kept.refl _ w).alloc _).alloc _
  by_cases h1 : x.state = y.state
  · by_cases h2 : x.steps = y.steps
    · by_cases h3 : x.out.length = y.out.length
      · obtain ⟨px, ix, ox, sx, tx⟩ := x
        obtain ⟨py, iy, oy, sy, ty⟩ := y
        simp only at h1 h2 h3
        subst h1; subst h2
        simp only at *
        have HE := Lib.hid (fun h => sh_end (x := ⟨px, ix, ox, sx, tx⟩) (y := ⟨py, iy, oy, sx, tx⟩) rfl rfl h3 h)
        have HN := Lib.hid (fun j hj => sh_no (x := ⟨px, ix, ox, sx, tx⟩) (y := ⟨py, iy, oy, sx, tx⟩) (j := j) hj)
        rw [← h3] at HB0 HB1 HF HR'
        rw [← h3]
        have H3 := Lib.hid h3
        clear h3 hl'
        go_enter Try.func7, Try.ntmps7
        go_wp2
        go_loopw [5] (fun i wr => ∃ j : Nat, i = .int .i64 j ∧ j ≤ ox.length ∧ Hid (∀ k, k < j → ox[k]? = oy[k]?) ∧ Hid (Blk wr w.heap.size 36 #[.int .i64 (tx : Int), .slice A ox.length c, .int .i64 (sx : Int)]) ∧
          Hid (Blk wr (w.heap.size + 1) 36 #[.int .i64 (tx : Int), .slice A' ox.length c', .int .i64 (sx : Int)]) ∧ Hid (Fr w wr)) (fun i _ => ox.length - (intOf i).toNat)
        case atStart => exact ⟨0, rfl, by omega, fun k hk => by omega, HB0, HB1, HF⟩
        case round =>
          obtain ⟨j, rfl, hj, heq, hb0, hb1, hfr⟩ := hrel
          have c0 := hb0.out.cell 1
          have c1 := hb1.out.cell 1
          simp only [List.getElem?_toArray, List.getElem?_cons_succ, List.getElem?_cons_zero] at c0 c1
          by_cases hlt : j < ox.length
          · have hlt' : j < oy.length := by have := H3.out; omega
            obtain ⟨b, off, rfl, _, hc⟩ := (HR.out.kept hfr.out (fun _ _ h => h)).2 (by omega)
            obtain ⟨b', off', rfl, _, hc'⟩ := (HR'.out.kept hfr.out (fun _ _ h => h)).2 (by omega)
            have hx : ox[j]? = some ox[j] := List.getElem?_eq_getElem hlt
            have hy : oy[j]? = some oy[j] := List.getElem?_eq_getElem hlt'
            have d0 := hc j (.int .u32 ox[j]) (by unfold u32s; rw [List.getElem?_map, hx]; rfl)
            have d1 := hc' j (.int .u32 oy[j]) (by unfold u32s; rw [List.getElem?_map, hy]; rfl)
            have hlj : (j : Int) < (ox.length : Int) := by omega
            have hj0 : (0 : Int) ≤ (j : Int) := Int.natCast_nonneg _
            clear hc hc'
            by_cases hxy : ox[j] = oy[j]
            · have hne : (ox[j] != oy[j]) = false := by simp [hxy]
              have HS : Hid (∀ k, k < j + 1 → ox[k]? = oy[k]?) := by
                show ∀ k, _
                intro k hk
                by_cases e : k = j
                · subst e; rw [hx, hy, hxy]
                · exact heq.out k (by omega)
              clear hxy hx hy heq
              generalize ox[j] = a at *
              generalize oy[j] = b at *
              go_wp2
              go_quiet (fail)
              go_wp2
              go_roundw
              case rel => exact ⟨j + 1, by go_num, by omega, HS, hb0, hb1, Lib.hid (hfr.out.drewN nq)⟩
              case measure => simp [intOf]; omega
            · have hne : (ox[j] != oy[j]) = true := by simp [hxy]
              have HS := Lib.hid (HN.out j (by rw [hx, hy]; simp [hxy]))
              clear hxy hx hy heq HN HE
              generalize ox[j] = a at *
              generalize oy[j] = b at *
              go_wp2
              go_quiet (fail)
              go_wp2
              go_ret
              exact ⟨ret_b HS.out.symm, hfr.out.drewN nq⟩
          · have HS := Lib.hid (HE.out (fun k hk => heq.out k (by omega)))
            clear heq HN HE
            go_wp2
            go_ret
            exact ⟨ret_b HS.out.symm, hfr.out⟩
      · have HE := Lib.hid (sh_ne (x := x) (y := y) (Or.inr (Or.inr h3)))
        rw [h1, h2] at HF ⊢
        obtain ⟨px, ix, ox, sx, tx⟩ := x
        obtain ⟨py, iy, oy, sy, ty⟩ := y
        simp only at *
        clear HB0 HB1 h1 h2
        have h3' : ¬ (ox.length : Int) = (oy.length : Int) := by omega
        clear h3
        go_enter Try.func7, Try.ntmps7
        go_wp2
        go_ret
        exact ⟨ret_b HE.out.symm, HF.out⟩
    · have HE := Lib.hid (sh_ne (x := x) (y := y) (Or.inr (Or.inl h2)))
      rw [h1] at HF ⊢
      obtain ⟨px, ix, ox, sx, tx⟩ := x
      obtain ⟨py, iy, oy, sy, ty⟩ := y
      simp only at *
      clear HB0 HB1 h1
      have h3' : ¬ (sx : Int) = (sy : Int) := by omega
      clear h2
      go_enter Try.func7, Try.ntmps7
      go_wp2
      go_ret
      exact ⟨ret_b HE.out.symm, HF.out⟩
  · have HE := Lib.hid (sh_ne (x := x) (y := y) (Or.inl h1))
    obtain ⟨px, ix, ox, sx, tx⟩ := x
    obtain ⟨py, iy, oy, sy, ty⟩ := y
    simp only at *
    clear HB0 HB1
    have h3' : ¬ (tx : Int) = (ty : Int) := by omega
    clear h1
    go_enter Try.func7, Try.ntmps7
    go_wp2
    go_ret
    exact ⟨ret_b HE.out.symm, HF.out⟩

theorem next_pc {i : In} {pc : Nat} {a : Int} (hc : i.op = 8 ∨ i.op = 9 → 0 ≤ i.c) : ((pcV i pc a : Nat) : Int) = if i.op = 8 ∨ i.op = 9 ∧ a ≠ 0 then i.c else (pc : Int) + 1 := by
  unfold pcV
  split
  · rename_i h
    have := hc (by rcases h with h | h; exact Or.inl h; exact Or.inr h.1)
    omega
  · omega

end Go.Proofs.Ytodmkjeankbieac

/- A row of ints is sorted by a function that only reads: every cell still holds one of what they held. -/
namespace Go.Proofs.Ytodmkjeankbieac
open Go.RowKit Go.Sort Go.Shelf

/-- the numbers of the sort's types and functions -/
def sortRen : Ren := ⟨fun n => if n = 20 then 60 else n, fun n => if n = 0 then 0 else if n = 3 then 3 else if n = 4 then 4 else if n = 22 then 87 else if n = 24 then 3 else if n = 25 then 89 else n, fun n => n⟩

theorem sortLays : SlLaysF.n20 Try.prog sortRen where
  mixed := by kernel_rfl
  f20 := ⟨Try.f60.name, by decide, by kernel_rfl⟩
  t0 := Try.underlying0
  a0 := Try.isAgg0
  z0 := Try.sizeOf0
  v0 := Try.zeroValue0
  t3 := Try.underlying3
  a3 := Try.isAgg3
  z3 := Try.sizeOf3
  v3 := Try.zeroValue3
  t4 := Try.underlying4
  a4 := Try.isAgg4
  z4 := Try.sizeOf4
  v4 := Try.zeroValue4
  t22 := Try.underlying87
  a22 := Try.isAgg87
  z22 := Try.sizeOf87
  v22 := Try.zeroValue87
  a24 := Try.isAgg3
  z24 := Try.sizeOf3
  t25 := Try.underlying89
  a25 := Try.isAgg89
  z25 := Try.sizeOf89
  v25 := Try.zeroValue89
end Go.Proofs.Ytodmkjeankbieac

/- Rows of truths as functions; matrices of truths. -/
namespace Go.Proofs.Ytodmkjeankbieac
open Go.RowKit Go.Sort

/-- the cells of n truths -/
def mkB (n : Nat) (f : Nat → Bool) : Array Value := ((List.range n).map fun t => Value.bool (f t)).toArray
theorem mkB_at {n : Nat} {f : Nat → Bool} {t : Nat} (h : t < n) : (mkB n f)[t]? = some (.bool (f t)) := by
  unfold mkB
  simp [List.getElem?_range h]
theorem mkB_set {n : Nat} {f : Nat → Bool} {t : Nat} {x : Bool} : (mkB n f).setIfInBounds t (.bool x) = mkB n (fun s => if s = t then x else f s) := by
  unfold mkB
  rw [List.setIfInBounds_toArray]
  congr 1
  apply List.ext_getElem
  · simp
  · intro i h1 h2
    simp at h1
    rw [List.getElem_set]
    by_cases h : t = i
    · subst h; simp
    · rw [if_neg h]
      simp
      intro e; exact absurd e.symm h
theorem mkB_congr {n : Nat} {f g : Nat → Bool} (h : ∀ t, t < n → f t = g t) : mkB n f = mkB n g := by
  unfold mkB
  congr 1
  apply List.map_congr_left
  intro t ht
  rw [h t (List.mem_range.1 ht)]
theorem made_mkB (n : Nat) : madeCells #[.bool false] n = mkB n (fun _ => false) := by
  unfold mkB
  apply Array.ext_getElem?
  intro i
  unfold madeCells
  rcases Nat.lt_or_ge i n with h | h
  · simp [List.getElem?_range h, h, Nat.mod_one]
  · simp [List.getElem?_eq_none, h, Nat.not_lt.2 h]
theorem mkB_size (n : Nat) (f : Nat → Bool) : (mkB n f).size = n := by unfold mkB; simp
theorem mkB_list (n : Nat) (f : Nat → Bool) : (mkB n f).toList = ((List.range n).map f).map Value.bool := by unfold mkB; simp

theorem Blk.bcell {w : World} {g : Nat} {e : TypeId} {n : Nat} {f : Nat → Bool} (h : Blk w g e (mkB n f)) {t : Nat} (ht : t < n) : w.cell? ⟨g, t, none⟩ = some (.bool (f t)) := by
  rw [h.cell, mkB_at ht]
theorem Blk.bset {w : World} {g : Nat} {e : TypeId} {n : Nat} {f : Nat → Bool} (h : Blk w g e (mkB n f)) (t : Nat) (x : Bool) : Blk (w.setCell ⟨g, t, none⟩ (.bool x)) g e (mkB n fun s => if s = t then x else f s) := by
  have := h.set_ t (.bool x)
  rwa [mkB_set] at this
theorem RdBo.of_blk {w : World} {g : Nat} {e : TypeId} {n c : Nat} {f : Nat → Bool} {R : Nat → Prop} (h : Blk w g e (mkB n f)) (hR : R g) (hn : n ≤ maxLen) : RdBo w R (.slice (some ⟨g, 0, none⟩) n c) ((List.range n).map f) := by
  refine ⟨some ⟨g, 0, none⟩, c, by simp, by simpa using hn, by simp, fun _ => ⟨g, 0, rfl, hR, fun j u hu => ?_⟩⟩
  rw [Nat.zero_add, h.cell, ← hu, ← mkB_list]
  simp

/-- a matrix of truths -/
def RdM (w : World) (R : Nat → Prop) (v : Value) (M : List (List Bool)) : Prop :=
  ∃ (A : Option Addr) (c : Nat) (vs : List Value), v = .slice A M.length c ∧ M.length ≤ maxLen ∧ Reads w R 1 A M.length vs ∧ ∀ (k : Nat) (row : List Bool), M[k]? = some row → ∃ u, vs[k]? = some u ∧ RdBo w R u row
theorem RdM.kept {w w' : World} {R S : Nat → Prop} {v : Value} {M : List (List Bool)} (h : RdM w R v M) (hk : Kept S w w') (hs : ∀ b, R b → ¬ S b) : RdM w' R v M := by
  obtain ⟨A, c, vs, e, hl, hr, hrow⟩ := h
  refine ⟨A, c, vs, e, hl, hr.kept hk hs, fun k row hk' => ?_⟩
  obtain ⟨u, h1, h2⟩ := hrow k row hk'
  exact ⟨u, h1, h2.kept hk hs⟩
theorem RdM.row {w : World} {R : Nat → Prop} {v : Value} {M : List (List Bool)} (h : RdM w R v M) {k : Nat} {row : List Bool} (hk : M[k]? = some row) :
    ∃ b off c u, v = .slice (some ⟨b, off, none⟩) M.length c ∧ R b ∧ b < w.heap.size ∧ w.cell? ⟨b, off + k, none⟩ = some u ∧ RdBo w R u row := by
  obtain ⟨A, c, vs, e, hl, hr, hrow⟩ := h
  have hkl : k < M.length := (List.getElem?_eq_some_iff.1 hk).1
  obtain ⟨b, off, rfl, hR, hc⟩ := hr.2 (by omega)
  obtain ⟨u, h1, h2⟩ := hrow k row hk
  have := hc k u h1
  exact ⟨b, off, c, u, e, hR, cell_lt this, this, h2⟩
theorem RdBo.at_ {w : World} {R : Nat → Prop} {v : Value} {l : List Bool} (h : RdBo w R v l) {k : Nat} {x : Bool} (hx : l[k]? = some x) : ∃ b off c, v = .slice (some ⟨b, off, none⟩) l.length c ∧ R b ∧ b < w.heap.size ∧ w.cell? ⟨b, off + k, none⟩ = some (.bool x) := by
  obtain ⟨A, c, rfl, _, hr⟩ := h
  have hk : k < l.length := (List.getElem?_eq_some_iff.1 hx).1
  obtain ⟨b, off, rfl, hR, hc⟩ := hr.2 (by omega)
  have := hc k (.bool x) (by rw [List.getElem?_map, hx]; rfl)
  exact ⟨b, off, c, rfl, hR, cell_lt this, this⟩
theorem RdBo.val {w : World} {R : Nat → Prop} {v : Value} {l : List Bool} (h : RdBo w R v l) : ∃ A c, v = .slice A l.length c := let ⟨A, c, e, _⟩ := h; ⟨A, c, e⟩
theorem RdM.val {w : World} {R : Nat → Prop} {v : Value} {l : List (List Bool)} (h : RdM w R v l) : ∃ A c, v = .slice A l.length c := let ⟨A, c, _, e, _⟩ := h; ⟨A, c, e⟩
theorem RdI.val {w : World} {R : Nat → Prop} {v : Value} {l : List Int} (h : RdI w R v l) : ∃ A c, v = .slice A l.length c := let ⟨A, c, e, _⟩ := h; ⟨A, c, e⟩

theorem infoBool : (Try.prog.info? 4).map (fun i => (i.zero, i.size, i.bytes)) = some (some (.bool false), 1, 1) := by kernel_rfl
/-- 'make([]bool, n)' -/
theorem run_make_bools (n : Nat) (h : n ≤ 1000000) (w : World) : (Instr.makeSlice 22 (.int .i64 (n : Int)) (.int .i64 (n : Int))).run Try.prog w = .ok (.slice (some ⟨w.heap.size, 0, none⟩) n n) (w.alloc (.cells (mkB n fun _ => false) 4)) := by
  rw [← made_mkB]
  exact run_make_row' 22 4 (.bool false) 1 Try.underlying22 infoBool rfl .i64 .i64 n (by omega) (by omega) w
end Go.Proofs.Ytodmkjeankbieac

/- The walks of color.Make's two closures: how many are near one; which of two has more. And the sort by them. -/
namespace Go.Proofs.Ytodmkjeankbieac
open Go.RowKit Go.Sort Go.Shelf

/-- how many of the first k are true -/
def manyTo (row : List Bool) (k : Nat) : Nat := ((row.take k).filter id).length
theorem manyTo_s {row : List Bool} {k : Nat} {x : Bool} (h : row[k]? = some x) : manyTo row (k + 1) = manyTo row k + (if x then 1 else 0) := by
  unfold manyTo
  rw [List.take_add_one, h, List.filter_append, List.length_append]
  cases x <;> simp
theorem manyTo_le (row : List Bool) (k : Nat) : manyTo row k ≤ k := by
  unfold manyTo
  exact Nat.le_trans (List.length_filter_le _ _) (by rw [List.length_take]; omega)
def manyL (row : List Bool) : Nat := manyTo row row.length

set_option maxHeartbeats 1000000 in
theorem many_any (R : Nat → Prop) (bn : Nat) (v : Value) (M : List (List Bool)) (t : Nat) (row : List Bool) (w : World) (hb : Blk w bn 83 #[v]) (h : RdM w R v M) (ht : M[t]? = some row) (hr : row.length ≤ 100) :
    Calls Try.prog 27 #[.int .i64 (t : Int), .pointer (some ⟨bn, 0, none⟩)] w fun e w' => e = .returned (.int .i64 (manyL row : Int)) ∧ w' = w := by
  obtain ⟨b, off, c, u, rfl, _, hbl, c0, hrow⟩ := h.row ht
  have htl : t < M.length := (List.getElem?_eq_some_iff.1 ht).1
  have x0 := hb.cell 0
  have zb := hb.lt
  simp only [List.getElem?_toArray, List.getElem?_cons_zero] at x0
  have t0 : (0 : Int) ≤ (t : Int) := Int.natCast_nonneg _
  have t1 : (t : Int) < (M.length : Int) := by omega
  generalize M.length = ML at *
  have HROW := Lib.hid hrow
  obtain ⟨A, c2, rfl, _⟩ := hrow.val
  clear hrow h ht
  go_enter Try.func27, Try.ntmps27
  go_wp2
  go_loop [4, 12] (fun n i => ∃ k : Nat, k ≤ row.length ∧ i = .int .i64 k ∧ n = .int .i64 (manyTo row k : Int)) (fun _ i => row.length - (intOf i).toNat)
  case atStart => exact ⟨0, Nat.zero_le _, rfl, rfl⟩
  case round =>
    obtain ⟨k, hk, rfl, rfl⟩ := hrel
    by_cases hlt : k < row.length
    · obtain ⟨x, hx⟩ : ∃ x, row[k]? = some x := ⟨_, List.getElem?_eq_getElem hlt⟩
      obtain ⟨b3, o3, c3, e3, _, hb3, d0⟩ := HROW.out.at_ hx
      obtain ⟨rfl, _, rfl⟩ : A = some ⟨b3, o3, none⟩ ∧ True ∧ c2 = c3 := by simpa using e3
      have hs := manyTo_s hx
      have hml := manyTo_le row k
      have hk0 : (0 : Int) ≤ (k : Int) := Int.natCast_nonneg _
      have hk1 : (k : Int) < (row.length : Int) := by omega
      clear e3 hx
      generalize manyTo row k = m at *
      cases x
      · go_wp2
        go_round
        case rel => exact ⟨k + 1, by omega, by go_num, by rw [hs]; rfl⟩
        case measure => simp [intOf]; omega
      · go_wp2
        go_round
        case rel => exact ⟨k + 1, by omega, by go_num, by rw [hs]; go_num⟩
        case measure => simp [intOf]; omega
    · obtain rfl : k = row.length := by omega
      go_wp2
      go_ret
      exact ⟨rfl, rfl⟩

theorem more_any (R : Nat → Prop) (bm bn : Nat) (v : Value) (M : List (List Bool)) (a b : Nat) (ra rb : List Bool) (w : World) (hm : Blk w bm 86 #[.func (.func 27) #[] #[.pointer (some ⟨bn, 0, none⟩)]]) (hb : Blk w bn 83 #[v]) (h : RdM w R v M)
    (ha : M[a]? = some ra) (hbb : M[b]? = some rb) (h1 : ra.length ≤ 100) (h2 : rb.length ≤ 100) :
    Calls Try.prog 29 #[.int .i64 (a : Int), .int .i64 (b : Int), .pointer (some ⟨bm, 0, none⟩)] w fun e w' => e = .returned (.int .i64 ((manyL rb : Int) - (manyL ra : Int))) ∧ ∃ q, w' = w.drewN q := by
  have A1 := manyTo_le ra ra.length
  have A2 := manyTo_le rb rb.length
  have k1 : ∀ n, Calls Try.prog 27 #[.int .i64 (a : Int), .pointer (some ⟨bn, 0, none⟩)] (w.drewN n) fun e w' => e = .returned (.int .i64 (manyL ra : Int)) ∧ w' = w.drewN n := fun n => many_any R bn v M a ra _ (hb.kept ((Kept.refl (fun _ => False) w).drewN n) (fun h => h)) (h.kept ((Kept.refl (fun _ => False) w).drewN n) (fun _ _ h => h)) ha h1
  have k2 : ∀ n, Calls Try.prog 27 #[.int .i64 (b : Int), .pointer (some ⟨bn, 0, none⟩)] (w.drewN n) fun e w' => e = .returned (.int .i64 (manyL rb : Int)) ∧ w' = w.drewN n := fun n => many_any R bn v M b rb _ (hb.kept ((Kept.refl (fun _ => False) w).drewN n) (fun h => h)) (h.kept ((Kept.refl (fun _ => False) w).drewN n) (fun _ _ h => h)) hbb h2
  have x0 := hm.cell 0
  simp only [List.getElem?_toArray, List.getElem?_cons_zero] at x0
  have zb := hm.lt
  clear hm hb h ha hbb
  change manyL ra ≤ _ at A1
  change manyL rb ≤ _ at A2
  generalize manyL ra = ma at *
  generalize manyL rb = mb at *
  go_enter Try.func29, Try.ntmps29
  go_wp2_with fail
  refine wp_region_quiet_lit (by kernel_rfl) (by kernel_rfl) ?_
  quiet_step (fail)
  quiet_step (fail)
  quiet_step (refine Calls.quiet_of_same (k2 _))
  quiet_step (fail)
  quiet_step (fail)
  quiet_step (refine Calls.quiet_of_same (k1 _))
  repeat (quiet_step (fail))
  refine wpQuiet_nil ?_
  intro _ hw'
  obtain ⟨nq, hw''⟩ := hw'
  subst hw''
  go_wp2
  go_ret
  refine ⟨ret_i ?_, nq, rfl⟩
  simp [IntKind.wrap, IntKind.bits, IntKind.signed]; omega
end Go.Proofs.Ytodmkjeankbieac
