/- Texts of this claim, packed. -/
import Derived.Test.YtodmkjeankbieabKAllk14
set_option linter.all false
namespace Go.Proofs.Ytodmkjeankbieab
open Go.RowKit Go.Sort Go.Maps

set_option maxHeartbeats 32000000 in
set_option maxRecDepth 100000 in
theorem ins8_const (R : Nat → Prop) (vw vc : Value) (Aa : Option Addr) (ca : Nat) (vst vn : Value) (p : Pg) (ns : List Nat) (sg sl : Nat) (bs : Nat) (s : Bits) (d ia ib ic : Int) (n : Nat) (a : PlaceV) (w : World) 
  (h : W8 w R vw vc Aa ca vst vn p ns sg sl) (hC : Cnd8 p ns sg sl) (hs : Blk w bs 4 (mkB (allFs p ns sg sl).length s)) (ha : isB sg sl a = true) :
  Calls Try.prog 123 #[.agg #[vw, vc, .slice Aa (allFs p ns sg sl).length ca, vst, vn], .slice (some ⟨bs, 0, none⟩) (allFs p ns sg sl).length (allFs p ns sg sl).length, (⟨1, d, ia, ib, ic, n⟩ : In).val, a.val] w (Row8 w (allFs p ns sg sl).length (giveB (allFs p ns sg sl) s (⟨1, d, ia, ib, ic, n⟩ : In) a)) := by
 have hL := hC.len
 have HALL := Lib.hid h.all
 have HS := Lib.hid hs
 have HAO := Lib.hid (isB_ok ha hC.s hC.l)
 have HAK := isB_kind ha
 have HAZ := Lib.hid (show ¬ (0 : Int) = a.k from by have := isB_kind ha; omega)
 have HPL := Lib.hid (fun i (hi : i < (allFs p ns sg sl).length) => fact_pl hC hi)
 have HIB := Lib.hid (fun i (hi : i < (allFs p ns sg sl).length) => fact_isB hC hi)
 have HFI := Lib.hid (fun w2 (hf : Fr w w2) f (hf' : f.pl = ⟨0, 0⟩ ∨ isB sg sl f.pl = true) => find8_any R vw vc Aa ca vst vn p ns sg sl bs s f w2 (h.fr hf) hC (hs.kept hf (fun h => h)) hf')
 have hmk := run_make_bools (allFs p ns sg sl).length (by omega)
 have HGI : Hid (∀ i, giveB (allFs p ns sg sl) s (⟨1, d, ia, ib, ic, n⟩ : In) a i = giveX (allFs p ns sg sl) s (⟨1, d, ia, ib, ic, n⟩ : In) a (fcAt (allFs p ns sg sl) i) (s i)) := fun _ => rfl
 have HZI := Lib.hid (fun i (hi : i < (allFs p ns sg sl).length) => fact_zero hC hi)
 have HDEF : Hid (∀ (e : Ending) (w' : World), (∃ bo, e = .returned (.slice (some ⟨bo, 0, none⟩) (allFs p ns sg sl).length (allFs p ns sg sl).length) ∧ w.heap.size ≤ bo ∧ Blk w' bo 4 (mkB (allFs p ns sg sl).length (giveB (allFs p ns sg sl) s (⟨1, d, ia, ib, ic, n⟩ : In) a)) ∧ Fr w w') → Row8 w (allFs p ns sg sl).length (giveB (allFs p ns sg sl) s (⟨1, d, ia, ib, ic, n⟩ : In) a) e w') := fun _ _ h => h
 have HGV := Lib.hid (fun w2 => refGives_any 1 w2)
 rw [show gvs 1 = true from rfl] at HGV
 clear h hC hs ha
 generalize allFs p ns sg sl = all at *
 generalize giveB all s (⟨1, d, ia, ib, ic, n⟩ : In) a = F at *
 obtain ⟨ak, an⟩ := a
 unfold In.val PlaceV.val
 simp only at HGI HAO HAK HAZ ⊢
 have H0 : Hid (Rnd8 w ((((w.alloc (.cells #[vw, vc, .slice Aa all.length ca, vst, vn] 121)).alloc (.cells #[.int .i64 1, .int .i64 d, .int .i64 ia, .int .i64 ib, .int .i64 ic, .int .u32 (n : Int)] 45)).alloc (.cells #[.int .i64 ak, .int .i64 an] 57)).alloc (.cells (mkB all.length fun _ => false) 4)) #[vw, vc, .slice Aa all.length ca, vst, vn] #[.int .i64 1, .int .i64 d, .int .i64 ia, .int .i64 ib, .int .i64 ic, .int .u32 (n : Int)] #[.int .i64 ak, .int .i64 an] (w.heap.size + 3) all.length F 0) := by
  have e1 := ((Blk.new (w.alloc (.cells #[vw, vc, .slice Aa all.length ca, vst, vn] 121)) 45 #[.int .i64 1, .int .i64 d, .int .i64 ia, .int .i64 ib, .int .i64 ic, .int .u32 (n : Int)]).alloc (.cells #[.int .i64 ak, .int .i64 an] 57)).alloc (.cells (mkB all.length fun _ => false) 4)
  have e2 := (Blk.new ((w.alloc (.cells #[vw, vc, .slice Aa all.length ca, vst, vn] 121)).alloc (.cells #[.int .i64 1, .int .i64 d, .int .i64 ia, .int .i64 ib, .int .i64 ic, .int .u32 (n : Int)] 45)) 57 #[.int .i64 ak, .int .i64 an]).alloc (.cells (mkB all.length fun _ => false) 4)
  have e3 := Blk.new (((w.alloc (.cells #[vw, vc, .slice Aa all.length ca, vst, vn] 121)).alloc (.cells #[.int .i64 1, .int .i64 d, .int .i64 ia, .int .i64 ib, .int .i64 ic, .int .u32 (n : Int)] 45)).alloc (.cells #[.int .i64 ak, .int .i64 an] 57)) 4 (mkB all.length fun _ => false)
  simp only [World.size_alloc] at e1 e2 e3
  rw [upTo_z all.length F] at e1 e2 e3 ⊢
  exact ⟨(((Blk.new w _ _).alloc _).alloc _).alloc _, e1, e2, e3, ((((Kept.refl _ w).alloc _).alloc _).alloc _).alloc _, by omega⟩
 go_enter Try.func123, Try.ntmps123
 go_wp2_with fail
 refine (HGV.out _).mono ?_
 rintro e w1 ⟨rfl, rfl⟩
 go_wp2
 go_loopw [10] (fun i wr => ∃ i' : Nat, i = .int .i64 i' ∧ i' ≤ all.length ∧ Hid (Rnd8 w wr #[vw, vc, .slice Aa all.length ca, vst, vn] #[.int .i64 1, .int .i64 d, .int .i64 ia, .int .i64 ib, .int .i64 ic, .int .u32 (n : Int)] #[.int .i64 ak, .int .i64 an] (w.heap.size + 3) all.length F i')) (fun i _ => all.length - (intOf i).toNat)
 case atStart => exact ⟨0, rfl, Nat.zero_le _, H0⟩
 case round =>
  obtain ⟨i, rfl, hi, HO⟩ := hrel
  clear H0
  have hi0 : (0 : Int) ≤ (i : Int) := Int.natCast_nonneg _
  by_cases hlt : i < all.length
  · obtain ⟨ba, oa, rfl, _, c0, c1, c2, c3, c4⟩ := (HALL.out.kept HO.out.fr (fun _ _ h => h)).fc hlt
    have hi3 : (i : Int) < (all.length : Int) := by omega
    have hba := cell_lt c0
    have hpl := HPL.out i hlt
    have hib := HIB.out i hlt
    have hzi := HZI.out i hlt
    have hgi := HGI.out i
    have hsc := (HS.out.kept HO.out.fr (fun h => h)).bcell hlt
    have hbs := (HS.out.kept HO.out.fr (fun h => h)).lt
    generalize fcAt all i = x at *
    obtain ⟨⟨xk, xn⟩, xt, xT, xN⟩ := x
    simp only at c0 c1 c2 c3 c4 hpl hgi hib hzi
    have HGX := Lib.hid hgi
    have HPX := Lib.hid hpl.1
    have HBX := Lib.hid hib
    have HPZ := Lib.hid hzi
    have hxN := hpl.2
    clear hgi hpl hib hzi
    have fa0 : Fr wr (wr.alloc (.cells #[.int .i64 xk, .int .i64 xn, .bool xt, .int .i64 xT, .int .u32 (xN : Int)] 140)) := (Kept.refl _ wr).alloc _
    have hga0 := Blk.new wr 140 #[.int .i64 xk, .int .i64 xn, .bool xt, .int .i64 xT, .int .u32 (xN : Int)]
    have qa := HO.out.b0.cell 2
    have za := HO.out.b0.lt
    have hgn : ¬ wr.heap.size = w.heap.size + 1 + 1 + 1 := by have := HO.out.out.lt; omega
    have hgn' : ¬ w.heap.size + 1 + 1 + 1 = wr.heap.size := fun e => hgn e.symm
    simp only [List.getElem?_toArray, List.getElem?_cons_succ, List.getElem?_cons_zero] at qa
    have heq := eql_plc ⟨xk, xn⟩ ⟨ak, an⟩
    simp only at heq
    obtain ⟨wf, hwf⟩ : ∃ wf : World, wf = wr.alloc (.cells #[.int .i64 xk, .int .i64 xn, .bool xt, .int .i64 xT, .int .u32 (xN : Int)] 140) := ⟨_, rfl⟩
    go_upto_region 8 with fail
    rw [← hwf] at fa0 hga0 ⊢
    have fa : Fr wr wf := fa0
    have HOa := Lib.hid (HO.out.keep fa)
    have HGa := Lib.hid hga0
    have hsa : wf.cell? ⟨bs, i, none⟩ = some (.bool (s i)) := (fa.cell hbs).trans hsc
    clear hwf fa0 hga0 qa za c0 c1 c2 c3 c4 hba
    cases hsi : s i
    · rw [hsi] at hsc hsa
      have HSI := Lib.hid hsi
      clear hsi
      cases xt
      · -- M3
        as_aux_lemma =>
          by_cases hx0 : xk = 0
          · have hxb := neq0 hx0
            have hxe := ieq hx0
            have hpa : ¬ (⟨xk, xn⟩ : PlaceV) = ⟨ak, an⟩ := fun e => by injection e with e; omega
            rw [decide_eq_false hpa] at heq
            have q0 := HOa.out.b0.cell 0
            have q1 := HOa.out.b0.cell 1
            have q2 := HOa.out.b0.cell 2
            have q3 := HOa.out.b0.cell 3
            have q4 := HOa.out.b0.cell 4
            have z0 := HOa.out.b0.lt
            have i0 := HOa.out.b1.cell 0
            have i1 := HOa.out.b1.cell 1
            have i2 := HOa.out.b1.cell 2
            have i3 := HOa.out.b1.cell 3
            have i4 := HOa.out.b1.cell 4
            have i5 := HOa.out.b1.cell 5
            have z1 := HOa.out.b1.lt
            have p0 := HOa.out.b2.cell 0
            have p1 := HOa.out.b2.cell 1
            have z2 := HOa.out.b2.lt
            have y := HOa.out.out.frozen i
            have y2 := HOa.out.out.bcell hlt
            have y3 := HOa.out.out.lt
            simp only [List.getElem?_toArray, List.getElem?_cons_succ, List.getElem?_cons_zero] at q0 q1 q2 q3 q4 i0 i1 i2 i3 i4 i5 p0 p1
            have g0 := HGa.out.cell 0
            have g1 := HGa.out.cell 1
            have g2 := HGa.out.cell 2
            have g3 := HGa.out.cell 3
            have g4 := HGa.out.cell 4
            have zg := HGa.out.lt
            simp only [List.getElem?_toArray, List.getElem?_cons_succ, List.getElem?_cons_zero] at g0 g1 g2 g3 g4
            have HX0 := Lib.hid hx0
            have HPA := Lib.hid hpa
            clear hx0 hpa
            have HP := Lib.hid (HOa.out.put false)
            have HN := Lib.hid (HP.out.done (by rw [HGX.out]; simp [giveX, HSI.out, HX0.out, HPA.out, HAZ.out, ibeq]))
            go_wp2
            go_roundw
            case rel => exact ⟨i + 1, by go_num, by omega, HN⟩
            case measure => simp [intOf]; omega
          · have hxb := nne hx0
            have hxe := ine hx0
            have HOV := Lib.hid (refOverlap_any ⟨xk, xn⟩ ⟨ak, an⟩ wf HPX.out HAO.out)
            unfold PlaceV.val at HOV
            have q0 := HOa.out.b0.cell 0
            have q1 := HOa.out.b0.cell 1
            have q2 := HOa.out.b0.cell 2
            have q3 := HOa.out.b0.cell 3
            have q4 := HOa.out.b0.cell 4
            have z0 := HOa.out.b0.lt
            have i0 := HOa.out.b1.cell 0
            have i1 := HOa.out.b1.cell 1
            have i2 := HOa.out.b1.cell 2
            have i3 := HOa.out.b1.cell 3
            have i4 := HOa.out.b1.cell 4
            have i5 := HOa.out.b1.cell 5
            have z1 := HOa.out.b1.lt
            have p0 := HOa.out.b2.cell 0
            have p1 := HOa.out.b2.cell 1
            have z2 := HOa.out.b2.lt
            have y := HOa.out.out.frozen i
            have y2 := HOa.out.out.bcell hlt
            have y3 := HOa.out.out.lt
            simp only [List.getElem?_toArray, List.getElem?_cons_succ, List.getElem?_cons_zero] at q0 q1 q2 q3 q4 i0 i1 i2 i3 i4 i5 p0 p1
            have g0 := HGa.out.cell 0
            have g1 := HGa.out.cell 1
            have g2 := HGa.out.cell 2
            have g3 := HGa.out.cell 3
            have g4 := HGa.out.cell 4
            have zg := HGa.out.lt
            simp only [List.getElem?_toArray, List.getElem?_cons_succ, List.getElem?_cons_zero] at g0 g1 g2 g3 g4
            have HX0 := Lib.hid hx0
            clear hx0
            go_wp2_with fail
            refine HOV.out.mono ?_
            rintro e w1 ⟨rfl, f1⟩
            have HO1 := Lib.hid (HOa.out.keep f1)
            have HG1 := Lib.hid (HGa.out.kept f1 (fun h => h))
            have hsc1 := (f1.cell (cell_lt hsa)).trans hsa
            have hbs1 := cell_lt hsc1
            clear q0 q1 q2 q3 q4 z0 i0 i1 i2 i3 i4 i5 z1 p0 p1 z2 y y2 y3 g0 g1 g2 g3 g4 zg hsc hbs hsa HOa HGa HOV f1 fa
            have q0 := HO1.out.b0.cell 0
            have q1 := HO1.out.b0.cell 1
            have q2 := HO1.out.b0.cell 2
            have q3 := HO1.out.b0.cell 3
            have q4 := HO1.out.b0.cell 4
            have z0 := HO1.out.b0.lt
            have i0 := HO1.out.b1.cell 0
            have i1 := HO1.out.b1.cell 1
            have i2 := HO1.out.b1.cell 2
            have i3 := HO1.out.b1.cell 3
            have i4 := HO1.out.b1.cell 4
            have i5 := HO1.out.b1.cell 5
            have z1 := HO1.out.b1.lt
            have p0 := HO1.out.b2.cell 0
            have p1 := HO1.out.b2.cell 1
            have z2 := HO1.out.b2.lt
            have y := HO1.out.out.frozen i
            have y2 := HO1.out.out.bcell hlt
            have y3 := HO1.out.out.lt
            simp only [List.getElem?_toArray, List.getElem?_cons_succ, List.getElem?_cons_zero] at q0 q1 q2 q3 q4 i0 i1 i2 i3 i4 i5 p0 p1
            have g0 := HG1.out.cell 0
            have g1 := HG1.out.cell 1
            have g2 := HG1.out.cell 2
            have g3 := HG1.out.cell 3
            have g4 := HG1.out.cell 4
            have zg := HG1.out.lt
            simp only [List.getElem?_toArray, List.getElem?_cons_succ, List.getElem?_cons_zero] at g0 g1 g2 g3 g4
            cases hov : ovP (⟨xk, xn⟩ : PlaceV) ⟨ak, an⟩ with
            | false =>
              have hpa : ¬ (⟨xk, xn⟩ : PlaceV) = ⟨ak, an⟩ := fun e => by rw [e, ovP_refl HAK] at hov; cases hov
              rw [decide_eq_false hpa] at heq
              have HPA := Lib.hid hpa
              have HOVB := Lib.hid hov
              clear hpa hov
              have HP := Lib.hid (HO1.out.put false)
              have HN := Lib.hid (HP.out.done (by rw [HGX.out]; simp [giveX, HSI.out, HX0.out, HOVB.out, HPA.out, HAZ.out, ibeq]))
              go_wp2
              go_roundw
              case rel => exact ⟨i + 1, by go_num, by omega, HN⟩
              case measure => simp [intOf]; omega
            | true =>
              by_cases hpa : (⟨xk, xn⟩ : PlaceV) = ⟨ak, an⟩
              · rw [decide_eq_true hpa] at heq
                have HPA := Lib.hid hpa
                have HOVB := Lib.hid hov
                have HPV := Lib.hid (ovP_refl (a := ⟨ak, an⟩) HAK)
                clear hpa hov
                have HP := Lib.hid (HO1.out.put false)
                have HP := Lib.hid (HP.out.put (((xN : Int) == (n : Int))))
                have HN := Lib.hid (HP.out.done (by rw [HGX.out]; simp [giveX, HSI.out, HX0.out, HOVB.out, HPA.out, HPV.out, HAZ.out, ibeq]))
                go_wp2
                go_roundw
                case rel => exact ⟨i + 1, by go_num, by omega, HN⟩
                case measure => simp [intOf]; omega
              · rw [decide_eq_false hpa] at heq
                have HPA := Lib.hid hpa
                have HOVB := Lib.hid hov
                clear hpa hov
                have HP := Lib.hid (HO1.out.put false)
                have HN := Lib.hid (HP.out.done (by rw [HGX.out]; simp [giveX, HSI.out, HX0.out, HOVB.out, HPA.out, HAZ.out, ibeq]))
                go_wp2
                go_roundw
                case rel => exact ⟨i + 1, by go_num, by omega, HN⟩
                case measure => simp [intOf]; omega
      · by_cases hTd : xT = d
        · have hTb := ieq hTd
          have HTD := Lib.hid hTd
          clear hTd
          as_aux_lemma =>
            by_cases hx0 : xk = 0
            · have hxb := neq0 hx0
              have hxe := ieq hx0
              have hpa : ¬ (⟨xk, xn⟩ : PlaceV) = ⟨ak, an⟩ := fun e => by injection e with e; omega
              rw [decide_eq_false hpa] at heq
              have q0 := HOa.out.b0.cell 0
              have q1 := HOa.out.b0.cell 1
              have q2 := HOa.out.b0.cell 2
              have q3 := HOa.out.b0.cell 3
              have q4 := HOa.out.b0.cell 4
              have z0 := HOa.out.b0.lt
              have i0 := HOa.out.b1.cell 0
              have i1 := HOa.out.b1.cell 1
              have i2 := HOa.out.b1.cell 2
              have i3 := HOa.out.b1.cell 3
              have i4 := HOa.out.b1.cell 4
              have i5 := HOa.out.b1.cell 5
              have z1 := HOa.out.b1.lt
              have p0 := HOa.out.b2.cell 0
              have p1 := HOa.out.b2.cell 1
              have z2 := HOa.out.b2.lt
              have y := HOa.out.out.frozen i
              have y2 := HOa.out.out.bcell hlt
              have y3 := HOa.out.out.lt
              simp only [List.getElem?_toArray, List.getElem?_cons_succ, List.getElem?_cons_zero] at q0 q1 q2 q3 q4 i0 i1 i2 i3 i4 i5 p0 p1
              have g0 := HGa.out.cell 0
              have g1 := HGa.out.cell 1
              have g2 := HGa.out.cell 2
              have g3 := HGa.out.cell 3
              have g4 := HGa.out.cell 4
              have zg := HGa.out.lt
              simp only [List.getElem?_toArray, List.getElem?_cons_succ, List.getElem?_cons_zero] at g0 g1 g2 g3 g4
              have HX0 := Lib.hid hx0
              have HPA := Lib.hid hpa
              clear hx0 hpa
              have HP := Lib.hid (HOa.out.put false)
              have HP := Lib.hid (HP.out.put (((xN : Int) == (n : Int))))
              have HN := Lib.hid (HP.out.done (by rw [HGX.out]; simp [giveX, HSI.out, HX0.out, HTD.out, HPA.out, HAZ.out, ibeq]))
              go_wp2
              go_roundw
              case rel => exact ⟨i + 1, by go_num, by omega, HN⟩
              case measure => simp [intOf]; omega
            · have hxb := nne hx0
              have hxe := ine hx0
              have HOV := Lib.hid (refOverlap_any ⟨xk, xn⟩ ⟨ak, an⟩ wf HPX.out HAO.out)
              unfold PlaceV.val at HOV
              have q0 := HOa.out.b0.cell 0
              have q1 := HOa.out.b0.cell 1
              have q2 := HOa.out.b0.cell 2
              have q3 := HOa.out.b0.cell 3
              have q4 := HOa.out.b0.cell 4
              have z0 := HOa.out.b0.lt
              have i0 := HOa.out.b1.cell 0
              have i1 := HOa.out.b1.cell 1
              have i2 := HOa.out.b1.cell 2
              have i3 := HOa.out.b1.cell 3
              have i4 := HOa.out.b1.cell 4
              have i5 := HOa.out.b1.cell 5
              have z1 := HOa.out.b1.lt
              have p0 := HOa.out.b2.cell 0
              have p1 := HOa.out.b2.cell 1
              have z2 := HOa.out.b2.lt
              have y := HOa.out.out.frozen i
              have y2 := HOa.out.out.bcell hlt
              have y3 := HOa.out.out.lt
              simp only [List.getElem?_toArray, List.getElem?_cons_succ, List.getElem?_cons_zero] at q0 q1 q2 q3 q4 i0 i1 i2 i3 i4 i5 p0 p1
              have g0 := HGa.out.cell 0
              have g1 := HGa.out.cell 1
              have g2 := HGa.out.cell 2
              have g3 := HGa.out.cell 3
              have g4 := HGa.out.cell 4
              have zg := HGa.out.lt
              simp only [List.getElem?_toArray, List.getElem?_cons_succ, List.getElem?_cons_zero] at g0 g1 g2 g3 g4
              have HX0 := Lib.hid hx0
              clear hx0
              go_wp2_with fail
              refine HOV.out.mono ?_
              rintro e w1 ⟨rfl, f1⟩
              have HO1 := Lib.hid (HOa.out.keep f1)
              have HG1 := Lib.hid (HGa.out.kept f1 (fun h => h))
              have hsc1 := (f1.cell (cell_lt hsa)).trans hsa
              have hbs1 := cell_lt hsc1
              clear q0 q1 q2 q3 q4 z0 i0 i1 i2 i3 i4 i5 z1 p0 p1 z2 y y2 y3 g0 g1 g2 g3 g4 zg hsc hbs hsa HOa HGa HOV f1 fa
              have q0 := HO1.out.b0.cell 0
              have q1 := HO1.out.b0.cell 1
              have q2 := HO1.out.b0.cell 2
              have q3 := HO1.out.b0.cell 3
              have q4 := HO1.out.b0.cell 4
              have z0 := HO1.out.b0.lt
              have i0 := HO1.out.b1.cell 0
              have i1 := HO1.out.b1.cell 1
              have i2 := HO1.out.b1.cell 2
              have i3 := HO1.out.b1.cell 3
              have i4 := HO1.out.b1.cell 4
              have i5 := HO1.out.b1.cell 5
              have z1 := HO1.out.b1.lt
              have p0 := HO1.out.b2.cell 0
              have p1 := HO1.out.b2.cell 1
              have z2 := HO1.out.b2.lt
              have y := HO1.out.out.frozen i
              have y2 := HO1.out.out.bcell hlt
              have y3 := HO1.out.out.lt
              simp only [List.getElem?_toArray, List.getElem?_cons_succ, List.getElem?_cons_zero] at q0 q1 q2 q3 q4 i0 i1 i2 i3 i4 i5 p0 p1
              have g0 := HG1.out.cell 0
              have g1 := HG1.out.cell 1
              have g2 := HG1.out.cell 2
              have g3 := HG1.out.cell 3
              have g4 := HG1.out.cell 4
              have zg := HG1.out.lt
              simp only [List.getElem?_toArray, List.getElem?_cons_succ, List.getElem?_cons_zero] at g0 g1 g2 g3 g4
              cases hov : ovP (⟨xk, xn⟩ : PlaceV) ⟨ak, an⟩ with
              | false =>
                have hpa : ¬ (⟨xk, xn⟩ : PlaceV) = ⟨ak, an⟩ := fun e => by rw [e, ovP_refl HAK] at hov; cases hov
                rw [decide_eq_false hpa] at heq
                have HPA := Lib.hid hpa
                have HOVB := Lib.hid hov
                clear hpa hov
                have HP := Lib.hid (HO1.out.put false)
                have hgo : wr.heap.size ≠ (⟨w.heap.size + 3, i, none⟩ : Addr).block := by have := HO.out.out.lt; simp only; omega
                have HGS := Lib.hid (HG1.out.far (p := ⟨w.heap.size + 3, i, none⟩) hgo (.bool false))
                have HFX := Lib.hid (fun w2 hf => HFI.out w2 hf ⟨⟨xk, xn⟩, false, 0, n⟩ (Or.inr (HBX.out HX0.out)))
                unfold Fc.val at HFX
                simp only at HFX
                go_wp2_with fail
                refine (HFX.out _ HP.out.fr).mono ?_
                rintro e wf ⟨rfl, ff⟩
                have kf := ff
                have HQ := Lib.hid (HP.out.keep kf)
                have hgf := (HGS.out).kept kf (fun h => h)
                clear q0 q1 q2 q3 q4 z0 i0 i1 i2 i3 i4 i5 z1 p0 p1 z2 y y2 y3 g0 g1 g2 g3 g4 zg
                clear kf ff HFX
                have HP := HQ
                clear HQ
                have q0 := HP.out.b0.cell 0
                have q1 := HP.out.b0.cell 1
                have q2 := HP.out.b0.cell 2
                have q3 := HP.out.b0.cell 3
                have q4 := HP.out.b0.cell 4
                have z0 := HP.out.b0.lt
                have i0 := HP.out.b1.cell 0
                have i1 := HP.out.b1.cell 1
                have i2 := HP.out.b1.cell 2
                have i3 := HP.out.b1.cell 3
                have i4 := HP.out.b1.cell 4
                have i5 := HP.out.b1.cell 5
                have z1 := HP.out.b1.lt
                have p0 := HP.out.b2.cell 0
                have p1 := HP.out.b2.cell 1
                have z2 := HP.out.b2.lt
                have y := HP.out.out.frozen i
                have y2 := HP.out.out.bcell hlt
                have y3 := HP.out.out.lt
                simp only [List.getElem?_toArray, List.getElem?_cons_succ, List.getElem?_cons_zero] at q0 q1 q2 q3 q4 i0 i1 i2 i3 i4 i5 p0 p1
                have g0 := hgf.cell 0
                have g1 := hgf.cell 1
                have g2 := hgf.cell 2
                have g3 := hgf.cell 3
                have g4 := hgf.cell 4
                have zg := hgf.lt
                simp only [List.getElem?_toArray, List.getElem?_cons_succ, List.getElem?_cons_zero] at g0 g1 g2 g3 g4
                have HGS := Lib.hid hgf
                clear hgf
                have HP := Lib.hid (HP.out.put (findB all s ⟨⟨xk, xn⟩, false, 0, n⟩))
                have HN := Lib.hid (HP.out.done (by rw [HGX.out]; simp [giveX, HSI.out, HX0.out, HOVB.out, HTD.out, HPA.out, HAZ.out, ibeq]))
                go_wp2
                go_roundw
                case rel => exact ⟨i + 1, by go_num, by omega, HN⟩
                case measure => simp [intOf]; omega
              | true =>
                by_cases hpa : (⟨xk, xn⟩ : PlaceV) = ⟨ak, an⟩
                · rw [decide_eq_true hpa] at heq
                  have HPA := Lib.hid hpa
                  have HOVB := Lib.hid hov
                  have HPV := Lib.hid (ovP_refl (a := ⟨ak, an⟩) HAK)
                  clear hpa hov
                  have HP := Lib.hid (HO1.out.put false)
                  have HP := Lib.hid (HP.out.put (true))
                  have HN := Lib.hid (HP.out.done (by rw [HGX.out]; simp [giveX, HSI.out, HX0.out, HOVB.out, HTD.out, HPA.out, HPV.out, HAZ.out, ibeq]))
                  go_wp2
                  go_roundw
                  case rel => exact ⟨i + 1, by go_num, by omega, HN⟩
                  case measure => simp [intOf]; omega
                · rw [decide_eq_false hpa] at heq
                  have HPA := Lib.hid hpa
                  have HOVB := Lib.hid hov
                  clear hpa hov
                  have HP := Lib.hid (HO1.out.put false)
                  have HN := Lib.hid (HP.out.done (by rw [HGX.out]; simp [giveX, HSI.out, HX0.out, HOVB.out, HTD.out, HPA.out, HAZ.out, ibeq]))
                  go_wp2
                  go_roundw
                  case rel => exact ⟨i + 1, by go_num, by omega, HN⟩
                  case measure => simp [intOf]; omega
        · have hTb := ine hTd
          have HTD := Lib.hid hTd
          clear hTd
          as_aux_lemma =>
            by_cases hx0 : xk = 0
            · have hxb := neq0 hx0
              have hxe := ieq hx0
              have hpa : ¬ (⟨xk, xn⟩ : PlaceV) = ⟨ak, an⟩ := fun e => by injection e with e; omega
              rw [decide_eq_false hpa] at heq
              have q0 := HOa.out.b0.cell 0
              have q1 := HOa.out.b0.cell 1
              have q2 := HOa.out.b0.cell 2
              have q3 := HOa.out.b0.cell 3
              have q4 := HOa.out.b0.cell 4
              have z0 := HOa.out.b0.lt
              have i0 := HOa.out.b1.cell 0
              have i1 := HOa.out.b1.cell 1
              have i2 := HOa.out.b1.cell 2
              have i3 := HOa.out.b1.cell 3
              have i4 := HOa.out.b1.cell 4
              have i5 := HOa.out.b1.cell 5
              have z1 := HOa.out.b1.lt
              have p0 := HOa.out.b2.cell 0
              have p1 := HOa.out.b2.cell 1
              have z2 := HOa.out.b2.lt
              have y := HOa.out.out.frozen i
              have y2 := HOa.out.out.bcell hlt
              have y3 := HOa.out.out.lt
              simp only [List.getElem?_toArray, List.getElem?_cons_succ, List.getElem?_cons_zero] at q0 q1 q2 q3 q4 i0 i1 i2 i3 i4 i5 p0 p1
              have g0 := HGa.out.cell 0
              have g1 := HGa.out.cell 1
              have g2 := HGa.out.cell 2
              have g3 := HGa.out.cell 3
              have g4 := HGa.out.cell 4
              have zg := HGa.out.lt
              simp only [List.getElem?_toArray, List.getElem?_cons_succ, List.getElem?_cons_zero] at g0 g1 g2 g3 g4
              have HX0 := Lib.hid hx0
              have HPA := Lib.hid hpa
              clear hx0 hpa
              have HP := Lib.hid (HOa.out.put false)
              have HN := Lib.hid (HP.out.done (by rw [HGX.out]; simp [giveX, HSI.out, HX0.out, HTD.out, HPA.out, HAZ.out, ibeq]))
              go_wp2
              go_roundw
              case rel => exact ⟨i + 1, by go_num, by omega, HN⟩
              case measure => simp [intOf]; omega
            · have hxb := nne hx0
              have hxe := ine hx0
              have HOV := Lib.hid (refOverlap_any ⟨xk, xn⟩ ⟨ak, an⟩ wf HPX.out HAO.out)
              unfold PlaceV.val at HOV
              have q0 := HOa.out.b0.cell 0
              have q1 := HOa.out.b0.cell 1
              have q2 := HOa.out.b0.cell 2
              have q3 := HOa.out.b0.cell 3
              have q4 := HOa.out.b0.cell 4
              have z0 := HOa.out.b0.lt
              have i0 := HOa.out.b1.cell 0
              have i1 := HOa.out.b1.cell 1
              have i2 := HOa.out.b1.cell 2
              have i3 := HOa.out.b1.cell 3
              have i4 := HOa.out.b1.cell 4
              have i5 := HOa.out.b1.cell 5
              have z1 := HOa.out.b1.lt
              have p0 := HOa.out.b2.cell 0
              have p1 := HOa.out.b2.cell 1
              have z2 := HOa.out.b2.lt
              have y := HOa.out.out.frozen i
              have y2 := HOa.out.out.bcell hlt
              have y3 := HOa.out.out.lt
              simp only [List.getElem?_toArray, List.getElem?_cons_succ, List.getElem?_cons_zero] at q0 q1 q2 q3 q4 i0 i1 i2 i3 i4 i5 p0 p1
              have g0 := HGa.out.cell 0
              have g1 := HGa.out.cell 1
              have g2 := HGa.out.cell 2
              have g3 := HGa.out.cell 3
              have g4 := HGa.out.cell 4
              have zg := HGa.out.lt
              simp only [List.getElem?_toArray, List.getElem?_cons_succ, List.getElem?_cons_zero] at g0 g1 g2 g3 g4
              have HX0 := Lib.hid hx0
              clear hx0
              go_wp2_with fail
              refine HOV.out.mono ?_
              rintro e w1 ⟨rfl, f1⟩
              have HO1 := Lib.hid (HOa.out.keep f1)
              have HG1 := Lib.hid (HGa.out.kept f1 (fun h => h))
              have hsc1 := (f1.cell (cell_lt hsa)).trans hsa
              have hbs1 := cell_lt hsc1
              clear q0 q1 q2 q3 q4 z0 i0 i1 i2 i3 i4 i5 z1 p0 p1 z2 y y2 y3 g0 g1 g2 g3 g4 zg hsc hbs hsa HOa HGa HOV f1 fa
              have q0 := HO1.out.b0.cell 0
              have q1 := HO1.out.b0.cell 1
              have q2 := HO1.out.b0.cell 2
              have q3 := HO1.out.b0.cell 3
              have q4 := HO1.out.b0.cell 4
              have z0 := HO1.out.b0.lt
              have i0 := HO1.out.b1.cell 0
              have i1 := HO1.out.b1.cell 1
              have i2 := HO1.out.b1.cell 2
              have i3 := HO1.out.b1.cell 3
              have i4 := HO1.out.b1.cell 4
              have i5 := HO1.out.b1.cell 5
              have z1 := HO1.out.b1.lt
              have p0 := HO1.out.b2.cell 0
              have p1 := HO1.out.b2.cell 1
              have z2 := HO1.out.b2.lt
              have y := HO1.out.out.frozen i
              have y2 := HO1.out.out.bcell hlt
              have y3 := HO1.out.out.lt
              simp only [List.getElem?_toArray, List.getElem?_cons_succ, List.getElem?_cons_zero] at q0 q1 q2 q3 q4 i0 i1 i2 i3 i4 i5 p0 p1
              have g0 := HG1.out.cell 0
              have g1 := HG1.out.cell 1
              have g2 := HG1.out.cell 2
              have g3 := HG1.out.cell 3
              have g4 := HG1.out.cell 4
              have zg := HG1.out.lt
              simp only [List.getElem?_toArray, List.getElem?_cons_succ, List.getElem?_cons_zero] at g0 g1 g2 g3 g4
              cases hov : ovP (⟨xk, xn⟩ : PlaceV) ⟨ak, an⟩ with
              | false =>
                have hpa : ¬ (⟨xk, xn⟩ : PlaceV) = ⟨ak, an⟩ := fun e => by rw [e, ovP_refl HAK] at hov; cases hov
                rw [decide_eq_false hpa] at heq
                have HPA := Lib.hid hpa
                have HOVB := Lib.hid hov
                clear hpa hov
                have HP := Lib.hid (HO1.out.put false)
                have HN := Lib.hid (HP.out.done (by rw [HGX.out]; simp [giveX, HSI.out, HX0.out, HOVB.out, HTD.out, HPA.out, HAZ.out, ibeq]))
                go_wp2
                go_roundw
                case rel => exact ⟨i + 1, by go_num, by omega, HN⟩
                case measure => simp [intOf]; omega
              | true =>
                by_cases hpa : (⟨xk, xn⟩ : PlaceV) = ⟨ak, an⟩
                · rw [decide_eq_true hpa] at heq
                  have HPA := Lib.hid hpa
                  have HOVB := Lib.hid hov
                  have HPV := Lib.hid (ovP_refl (a := ⟨ak, an⟩) HAK)
                  clear hpa hov
                  have HP := Lib.hid (HO1.out.put false)
                  have HN := Lib.hid (HP.out.done (by rw [HGX.out]; simp [giveX, HSI.out, HX0.out, HOVB.out, HTD.out, HPA.out, HPV.out, HAZ.out, ibeq]))
                  go_wp2
                  go_roundw
                  case rel => exact ⟨i + 1, by go_num, by omega, HN⟩
                  case measure => simp [intOf]; omega
                · rw [decide_eq_false hpa] at heq
                  have HPA := Lib.hid hpa
                  have HOVB := Lib.hid hov
                  clear hpa hov
                  have HP := Lib.hid (HO1.out.put false)
                  have HN := Lib.hid (HP.out.done (by rw [HGX.out]; simp [giveX, HSI.out, HX0.out, HOVB.out, HTD.out, HPA.out, HAZ.out, ibeq]))
                  go_wp2
                  go_roundw
                  case rel => exact ⟨i + 1, by go_num, by omega, HN⟩
                  case measure => simp [intOf]; omega
    · rw [hsi] at hsc hsa
      have HSI := Lib.hid hsi
      clear hsi
      cases xt
      · -- M3
        as_aux_lemma =>
          by_cases hx0 : xk = 0
          · have hxb := neq0 hx0
            have hxe := ieq hx0
            have hpa : ¬ (⟨xk, xn⟩ : PlaceV) = ⟨ak, an⟩ := fun e => by injection e with e; omega
            rw [decide_eq_false hpa] at heq
            have q0 := HOa.out.b0.cell 0
            have q1 := HOa.out.b0.cell 1
            have q2 := HOa.out.b0.cell 2
            have q3 := HOa.out.b0.cell 3
            have q4 := HOa.out.b0.cell 4
            have z0 := HOa.out.b0.lt
            have i0 := HOa.out.b1.cell 0
            have i1 := HOa.out.b1.cell 1
            have i2 := HOa.out.b1.cell 2
            have i3 := HOa.out.b1.cell 3
            have i4 := HOa.out.b1.cell 4
            have i5 := HOa.out.b1.cell 5
            have z1 := HOa.out.b1.lt
            have p0 := HOa.out.b2.cell 0
            have p1 := HOa.out.b2.cell 1
            have z2 := HOa.out.b2.lt
            have y := HOa.out.out.frozen i
            have y2 := HOa.out.out.bcell hlt
            have y3 := HOa.out.out.lt
            simp only [List.getElem?_toArray, List.getElem?_cons_succ, List.getElem?_cons_zero] at q0 q1 q2 q3 q4 i0 i1 i2 i3 i4 i5 p0 p1
            have g0 := HGa.out.cell 0
            have g1 := HGa.out.cell 1
            have g2 := HGa.out.cell 2
            have g3 := HGa.out.cell 3
            have g4 := HGa.out.cell 4
            have zg := HGa.out.lt
            simp only [List.getElem?_toArray, List.getElem?_cons_succ, List.getElem?_cons_zero] at g0 g1 g2 g3 g4
            have HX0 := Lib.hid hx0
            have HPA := Lib.hid hpa
            clear hx0 hpa
            have HP := Lib.hid (HOa.out.put true)
            have HN := Lib.hid (HP.out.done (by rw [HGX.out]; simp [giveX, HSI.out, HX0.out, HPA.out, HAZ.out, ibeq]))
            go_wp2
            go_roundw
            case rel => exact ⟨i + 1, by go_num, by omega, HN⟩
            case measure => simp [intOf]; omega
          · have hxb := nne hx0
            have hxe := ine hx0
            have HOV := Lib.hid (refOverlap_any ⟨xk, xn⟩ ⟨ak, an⟩ wf HPX.out HAO.out)
            unfold PlaceV.val at HOV
            have q0 := HOa.out.b0.cell 0
            have q1 := HOa.out.b0.cell 1
            have q2 := HOa.out.b0.cell 2
            have q3 := HOa.out.b0.cell 3
            have q4 := HOa.out.b0.cell 4
            have z0 := HOa.out.b0.lt
            have i0 := HOa.out.b1.cell 0
            have i1 := HOa.out.b1.cell 1
            have i2 := HOa.out.b1.cell 2
            have i3 := HOa.out.b1.cell 3
            have i4 := HOa.out.b1.cell 4
            have i5 := HOa.out.b1.cell 5
            have z1 := HOa.out.b1.lt
            have p0 := HOa.out.b2.cell 0
            have p1 := HOa.out.b2.cell 1
            have z2 := HOa.out.b2.lt
            have y := HOa.out.out.frozen i
            have y2 := HOa.out.out.bcell hlt
            have y3 := HOa.out.out.lt
            simp only [List.getElem?_toArray, List.getElem?_cons_succ, List.getElem?_cons_zero] at q0 q1 q2 q3 q4 i0 i1 i2 i3 i4 i5 p0 p1
            have g0 := HGa.out.cell 0
            have g1 := HGa.out.cell 1
            have g2 := HGa.out.cell 2
            have g3 := HGa.out.cell 3
            have g4 := HGa.out.cell 4
            have zg := HGa.out.lt
            simp only [List.getElem?_toArray, List.getElem?_cons_succ, List.getElem?_cons_zero] at g0 g1 g2 g3 g4
            have HX0 := Lib.hid hx0
            clear hx0
            go_wp2_with fail
            refine HOV.out.mono ?_
            rintro e w1 ⟨rfl, f1⟩
            have HO1 := Lib.hid (HOa.out.keep f1)
            have HG1 := Lib.hid (HGa.out.kept f1 (fun h => h))
            have hsc1 := (f1.cell (cell_lt hsa)).trans hsa
            have hbs1 := cell_lt hsc1
            clear q0 q1 q2 q3 q4 z0 i0 i1 i2 i3 i4 i5 z1 p0 p1 z2 y y2 y3 g0 g1 g2 g3 g4 zg hsc hbs hsa HOa HGa HOV f1 fa
            have q0 := HO1.out.b0.cell 0
            have q1 := HO1.out.b0.cell 1
            have q2 := HO1.out.b0.cell 2
            have q3 := HO1.out.b0.cell 3
            have q4 := HO1.out.b0.cell 4
            have z0 := HO1.out.b0.lt
            have i0 := HO1.out.b1.cell 0
            have i1 := HO1.out.b1.cell 1
            have i2 := HO1.out.b1.cell 2
            have i3 := HO1.out.b1.cell 3
            have i4 := HO1.out.b1.cell 4
            have i5 := HO1.out.b1.cell 5
            have z1 := HO1.out.b1.lt
            have p0 := HO1.out.b2.cell 0
            have p1 := HO1.out.b2.cell 1
            have z2 := HO1.out.b2.lt
            have y := HO1.out.out.frozen i
            have y2 := HO1.out.out.bcell hlt
            have y3 := HO1.out.out.lt
            simp only [List.getElem?_toArray, List.getElem?_cons_succ, List.getElem?_cons_zero] at q0 q1 q2 q3 q4 i0 i1 i2 i3 i4 i5 p0 p1
            have g0 := HG1.out.cell 0
            have g1 := HG1.out.cell 1
            have g2 := HG1.out.cell 2
            have g3 := HG1.out.cell 3
            have g4 := HG1.out.cell 4
            have zg := HG1.out.lt
            simp only [List.getElem?_toArray, List.getElem?_cons_succ, List.getElem?_cons_zero] at g0 g1 g2 g3 g4
            cases hov : ovP (⟨xk, xn⟩ : PlaceV) ⟨ak, an⟩ with
            | false =>
              have hpa : ¬ (⟨xk, xn⟩ : PlaceV) = ⟨ak, an⟩ := fun e => by rw [e, ovP_refl HAK] at hov; cases hov
              rw [decide_eq_false hpa] at heq
              have HPA := Lib.hid hpa
              have HOVB := Lib.hid hov
              clear hpa hov
              have HP := Lib.hid (HO1.out.put true)
              have HN := Lib.hid (HP.out.done (by rw [HGX.out]; simp [giveX, HSI.out, HX0.out, HOVB.out, HPA.out, HAZ.out, ibeq]))
              go_wp2
              go_roundw
              case rel => exact ⟨i + 1, by go_num, by omega, HN⟩
              case measure => simp [intOf]; omega
            | true =>
              by_cases hpa : (⟨xk, xn⟩ : PlaceV) = ⟨ak, an⟩
              · rw [decide_eq_true hpa] at heq
                have HPA := Lib.hid hpa
                have HOVB := Lib.hid hov
                have HPV := Lib.hid (ovP_refl (a := ⟨ak, an⟩) HAK)
                clear hpa hov
                have HP := Lib.hid (HO1.out.put false)
                have HP := Lib.hid (HP.out.put (((xN : Int) == (n : Int))))
                have HN := Lib.hid (HP.out.done (by rw [HGX.out]; simp [giveX, HSI.out, HX0.out, HOVB.out, HPA.out, HPV.out, HAZ.out, ibeq]))
                go_wp2
                go_roundw
                case rel => exact ⟨i + 1, by go_num, by omega, HN⟩
                case measure => simp [intOf]; omega
              · rw [decide_eq_false hpa] at heq
                have HPA := Lib.hid hpa
                have HOVB := Lib.hid hov
                clear hpa hov
                have HP := Lib.hid (HO1.out.put false)
                have HN := Lib.hid (HP.out.done (by rw [HGX.out]; simp [giveX, HSI.out, HX0.out, HOVB.out, HPA.out, HAZ.out, ibeq]))
                go_wp2
                go_roundw
                case rel => exact ⟨i + 1, by go_num, by omega, HN⟩
                case measure => simp [intOf]; omega
      · by_cases hTd : xT = d
        · have hTb := ieq hTd
          have HTD := Lib.hid hTd
          clear hTd
          as_aux_lemma =>
            by_cases hx0 : xk = 0
            · have hxb := neq0 hx0
              have hxe := ieq hx0
              have hpa : ¬ (⟨xk, xn⟩ : PlaceV) = ⟨ak, an⟩ := fun e => by injection e with e; omega
              rw [decide_eq_false hpa] at heq
              have q0 := HOa.out.b0.cell 0
              have q1 := HOa.out.b0.cell 1
              have q2 := HOa.out.b0.cell 2
              have q3 := HOa.out.b0.cell 3
              have q4 := HOa.out.b0.cell 4
              have z0 := HOa.out.b0.lt
              have i0 := HOa.out.b1.cell 0
              have i1 := HOa.out.b1.cell 1
              have i2 := HOa.out.b1.cell 2
              have i3 := HOa.out.b1.cell 3
              have i4 := HOa.out.b1.cell 4
              have i5 := HOa.out.b1.cell 5
              have z1 := HOa.out.b1.lt
              have p0 := HOa.out.b2.cell 0
              have p1 := HOa.out.b2.cell 1
              have z2 := HOa.out.b2.lt
              have y := HOa.out.out.frozen i
              have y2 := HOa.out.out.bcell hlt
              have y3 := HOa.out.out.lt
              simp only [List.getElem?_toArray, List.getElem?_cons_succ, List.getElem?_cons_zero] at q0 q1 q2 q3 q4 i0 i1 i2 i3 i4 i5 p0 p1
              have g0 := HGa.out.cell 0
              have g1 := HGa.out.cell 1
              have g2 := HGa.out.cell 2
              have g3 := HGa.out.cell 3
              have g4 := HGa.out.cell 4
              have zg := HGa.out.lt
              simp only [List.getElem?_toArray, List.getElem?_cons_succ, List.getElem?_cons_zero] at g0 g1 g2 g3 g4
              have HX0 := Lib.hid hx0
              have HPA := Lib.hid hpa
              clear hx0 hpa
              have HP := Lib.hid (HOa.out.put false)
              have HP := Lib.hid (HP.out.put (((xN : Int) == (n : Int))))
              have HN := Lib.hid (HP.out.done (by rw [HGX.out]; simp [giveX, HSI.out, HX0.out, HTD.out, HPA.out, HAZ.out, ibeq]))
              go_wp2
              go_roundw
              case rel => exact ⟨i + 1, by go_num, by omega, HN⟩
              case measure => simp [intOf]; omega
            · have hxb := nne hx0
              have hxe := ine hx0
              have HOV := Lib.hid (refOverlap_any ⟨xk, xn⟩ ⟨ak, an⟩ wf HPX.out HAO.out)
              unfold PlaceV.val at HOV
              have q0 := HOa.out.b0.cell 0
              have q1 := HOa.out.b0.cell 1
              have q2 := HOa.out.b0.cell 2
              have q3 := HOa.out.b0.cell 3
              have q4 := HOa.out.b0.cell 4
              have z0 := HOa.out.b0.lt
              have i0 := HOa.out.b1.cell 0
              have i1 := HOa.out.b1.cell 1
              have i2 := HOa.out.b1.cell 2
              have i3 := HOa.out.b1.cell 3
              have i4 := HOa.out.b1.cell 4
              have i5 := HOa.out.b1.cell 5
              have z1 := HOa.out.b1.lt
              have p0 := HOa.out.b2.cell 0
              have p1 := HOa.out.b2.cell 1
              have z2 := HOa.out.b2.lt
              have y := HOa.out.out.frozen i
              have y2 := HOa.out.out.bcell hlt
              have y3 := HOa.out.out.lt
              simp only [List.getElem?_toArray, List.getElem?_cons_succ, List.getElem?_cons_zero] at q0 q1 q2 q3 q4 i0 i1 i2 i3 i4 i5 p0 p1
              have g0 := HGa.out.cell 0
              have g1 := HGa.out.cell 1
              have g2 := HGa.out.cell 2
              have g3 := HGa.out.cell 3
              have g4 := HGa.out.cell 4
              have zg := HGa.out.lt
              simp only [List.getElem?_toArray, List.getElem?_cons_succ, List.getElem?_cons_zero] at g0 g1 g2 g3 g4
              have HX0 := Lib.hid hx0
              clear hx0
              go_wp2_with fail
              refine HOV.out.mono ?_
              rintro e w1 ⟨rfl, f1⟩
              have HO1 := Lib.hid (HOa.out.keep f1)
              have HG1 := Lib.hid (HGa.out.kept f1 (fun h => h))
              have hsc1 := (f1.cell (cell_lt hsa)).trans hsa
              have hbs1 := cell_lt hsc1
              clear q0 q1 q2 q3 q4 z0 i0 i1 i2 i3 i4 i5 z1 p0 p1 z2 y y2 y3 g0 g1 g2 g3 g4 zg hsc hbs hsa HOa HGa HOV f1 fa
              have q0 := HO1.out.b0.cell 0
              have q1 := HO1.out.b0.cell 1
              have q2 := HO1.out.b0.cell 2
              have q3 := HO1.out.b0.cell 3
              have q4 := HO1.out.b0.cell 4
              have z0 := HO1.out.b0.lt
              have i0 := HO1.out.b1.cell 0
              have i1 := HO1.out.b1.cell 1
              have i2 := HO1.out.b1.cell 2
              have i3 := HO1.out.b1.cell 3
              have i4 := HO1.out.b1.cell 4
              have i5 := HO1.out.b1.cell 5
              have z1 := HO1.out.b1.lt
              have p0 := HO1.out.b2.cell 0
              have p1 := HO1.out.b2.cell 1
              have z2 := HO1.out.b2.lt
              have y := HO1.out.out.frozen i
              have y2 := HO1.out.out.bcell hlt
              have y3 := HO1.out.out.lt
              simp only [List.getElem?_toArray, List.getElem?_cons_succ, List.getElem?_cons_zero] at q0 q1 q2 q3 q4 i0 i1 i2 i3 i4 i5 p0 p1
              have g0 := HG1.out.cell 0
              have g1 := HG1.out.cell 1
              have g2 := HG1.out.cell 2
              have g3 := HG1.out.cell 3
              have g4 := HG1.out.cell 4
              have zg := HG1.out.lt
              simp only [List.getElem?_toArray, List.getElem?_cons_succ, List.getElem?_cons_zero] at g0 g1 g2 g3 g4
              cases hov : ovP (⟨xk, xn⟩ : PlaceV) ⟨ak, an⟩ with
              | false =>
                have hpa : ¬ (⟨xk, xn⟩ : PlaceV) = ⟨ak, an⟩ := fun e => by rw [e, ovP_refl HAK] at hov; cases hov
                rw [decide_eq_false hpa] at heq
                have HPA := Lib.hid hpa
                have HOVB := Lib.hid hov
                clear hpa hov
                have HP := Lib.hid (HO1.out.put false)
                have hgo : wr.heap.size ≠ (⟨w.heap.size + 3, i, none⟩ : Addr).block := by have := HO.out.out.lt; simp only; omega
                have HGS := Lib.hid (HG1.out.far (p := ⟨w.heap.size + 3, i, none⟩) hgo (.bool false))
                have HFX := Lib.hid (fun w2 hf => HFI.out w2 hf ⟨⟨xk, xn⟩, false, 0, n⟩ (Or.inr (HBX.out HX0.out)))
                unfold Fc.val at HFX
                simp only at HFX
                go_wp2_with fail
                refine (HFX.out _ HP.out.fr).mono ?_
                rintro e wf ⟨rfl, ff⟩
                have kf := ff
                have HQ := Lib.hid (HP.out.keep kf)
                have hgf := (HGS.out).kept kf (fun h => h)
                clear q0 q1 q2 q3 q4 z0 i0 i1 i2 i3 i4 i5 z1 p0 p1 z2 y y2 y3 g0 g1 g2 g3 g4 zg
                clear kf ff HFX
                have HP := HQ
                clear HQ
                have q0 := HP.out.b0.cell 0
                have q1 := HP.out.b0.cell 1
                have q2 := HP.out.b0.cell 2
                have q3 := HP.out.b0.cell 3
                have q4 := HP.out.b0.cell 4
                have z0 := HP.out.b0.lt
                have i0 := HP.out.b1.cell 0
                have i1 := HP.out.b1.cell 1
                have i2 := HP.out.b1.cell 2
                have i3 := HP.out.b1.cell 3
                have i4 := HP.out.b1.cell 4
                have i5 := HP.out.b1.cell 5
                have z1 := HP.out.b1.lt
                have p0 := HP.out.b2.cell 0
                have p1 := HP.out.b2.cell 1
                have z2 := HP.out.b2.lt
                have y := HP.out.out.frozen i
                have y2 := HP.out.out.bcell hlt
                have y3 := HP.out.out.lt
                simp only [List.getElem?_toArray, List.getElem?_cons_succ, List.getElem?_cons_zero] at q0 q1 q2 q3 q4 i0 i1 i2 i3 i4 i5 p0 p1
                have g0 := hgf.cell 0
                have g1 := hgf.cell 1
                have g2 := hgf.cell 2
                have g3 := hgf.cell 3
                have g4 := hgf.cell 4
                have zg := hgf.lt
                simp only [List.getElem?_toArray, List.getElem?_cons_succ, List.getElem?_cons_zero] at g0 g1 g2 g3 g4
                have HGS := Lib.hid hgf
                clear hgf
                have HP := Lib.hid (HP.out.put (findB all s ⟨⟨xk, xn⟩, false, 0, n⟩))
                have HN := Lib.hid (HP.out.done (by rw [HGX.out]; simp [giveX, HSI.out, HX0.out, HOVB.out, HTD.out, HPA.out, HAZ.out, ibeq]))
                go_wp2
                go_roundw
                case rel => exact ⟨i + 1, by go_num, by omega, HN⟩
                case measure => simp [intOf]; omega
              | true =>
                by_cases hpa : (⟨xk, xn⟩ : PlaceV) = ⟨ak, an⟩
                · rw [decide_eq_true hpa] at heq
                  have HPA := Lib.hid hpa
                  have HOVB := Lib.hid hov
                  have HPV := Lib.hid (ovP_refl (a := ⟨ak, an⟩) HAK)
                  clear hpa hov
                  have HP := Lib.hid (HO1.out.put false)
                  have HP := Lib.hid (HP.out.put (true))
                  have HN := Lib.hid (HP.out.done (by rw [HGX.out]; simp [giveX, HSI.out, HX0.out, HOVB.out, HTD.out, HPA.out, HPV.out, HAZ.out, ibeq]))
                  go_wp2
                  go_roundw
                  case rel => exact ⟨i + 1, by go_num, by omega, HN⟩
                  case measure => simp [intOf]; omega
                · rw [decide_eq_false hpa] at heq
                  have HPA := Lib.hid hpa
                  have HOVB := Lib.hid hov
                  clear hpa hov
                  have HP := Lib.hid (HO1.out.put false)
                  have HN := Lib.hid (HP.out.done (by rw [HGX.out]; simp [giveX, HSI.out, HX0.out, HOVB.out, HTD.out, HPA.out, HAZ.out, ibeq]))
                  go_wp2
                  go_roundw
                  case rel => exact ⟨i + 1, by go_num, by omega, HN⟩
                  case measure => simp [intOf]; omega
        · have hTb := ine hTd
          have HTD := Lib.hid hTd
          clear hTd
          as_aux_lemma =>
            by_cases hx0 : xk = 0
            · have hxb := neq0 hx0
              have hxe := ieq hx0
              have hpa : ¬ (⟨xk, xn⟩ : PlaceV) = ⟨ak, an⟩ := fun e => by injection e with e; omega
              rw [decide_eq_false hpa] at heq
              have q0 := HOa.out.b0.cell 0
              have q1 := HOa.out.b0.cell 1
              have q2 := HOa.out.b0.cell 2
              have q3 := HOa.out.b0.cell 3
              have q4 := HOa.out.b0.cell 4
              have z0 := HOa.out.b0.lt
              have i0 := HOa.out.b1.cell 0
              have i1 := HOa.out.b1.cell 1
              have i2 := HOa.out.b1.cell 2
              have i3 := HOa.out.b1.cell 3
              have i4 := HOa.out.b1.cell 4
              have i5 := HOa.out.b1.cell 5
              have z1 := HOa.out.b1.lt
              have p0 := HOa.out.b2.cell 0
              have p1 := HOa.out.b2.cell 1
              have z2 := HOa.out.b2.lt
              have y := HOa.out.out.frozen i
              have y2 := HOa.out.out.bcell hlt
              have y3 := HOa.out.out.lt
              simp only [List.getElem?_toArray, List.getElem?_cons_succ, List.getElem?_cons_zero] at q0 q1 q2 q3 q4 i0 i1 i2 i3 i4 i5 p0 p1
              have g0 := HGa.out.cell 0
              have g1 := HGa.out.cell 1
              have g2 := HGa.out.cell 2
              have g3 := HGa.out.cell 3
              have g4 := HGa.out.cell 4
              have zg := HGa.out.lt
              simp only [List.getElem?_toArray, List.getElem?_cons_succ, List.getElem?_cons_zero] at g0 g1 g2 g3 g4
              have HX0 := Lib.hid hx0
              have HPA := Lib.hid hpa
              clear hx0 hpa
              have HP := Lib.hid (HOa.out.put true)
              have HN := Lib.hid (HP.out.done (by rw [HGX.out]; simp [giveX, HSI.out, HX0.out, HTD.out, HPA.out, HAZ.out, ibeq]))
              go_wp2
              go_roundw
              case rel => exact ⟨i + 1, by go_num, by omega, HN⟩
              case measure => simp [intOf]; omega
            · have hxb := nne hx0
              have hxe := ine hx0
              have HOV := Lib.hid (refOverlap_any ⟨xk, xn⟩ ⟨ak, an⟩ wf HPX.out HAO.out)
              unfold PlaceV.val at HOV
              have q0 := HOa.out.b0.cell 0
              have q1 := HOa.out.b0.cell 1
              have q2 := HOa.out.b0.cell 2
              have q3 := HOa.out.b0.cell 3
              have q4 := HOa.out.b0.cell 4
              have z0 := HOa.out.b0.lt
              have i0 := HOa.out.b1.cell 0
              have i1 := HOa.out.b1.cell 1
              have i2 := HOa.out.b1.cell 2
              have i3 := HOa.out.b1.cell 3
              have i4 := HOa.out.b1.cell 4
              have i5 := HOa.out.b1.cell 5
              have z1 := HOa.out.b1.lt
              have p0 := HOa.out.b2.cell 0
              have p1 := HOa.out.b2.cell 1
              have z2 := HOa.out.b2.lt
              have y := HOa.out.out.frozen i
              have y2 := HOa.out.out.bcell hlt
              have y3 := HOa.out.out.lt
              simp only [List.getElem?_toArray, List.getElem?_cons_succ, List.getElem?_cons_zero] at q0 q1 q2 q3 q4 i0 i1 i2 i3 i4 i5 p0 p1
              have g0 := HGa.out.cell 0
              have g1 := HGa.out.cell 1
              have g2 := HGa.out.cell 2
              have g3 := HGa.out.cell 3
              have g4 := HGa.out.cell 4
              have zg := HGa.out.lt
              simp only [List.getElem?_toArray, List.getElem?_cons_succ, List.getElem?_cons_zero] at g0 g1 g2 g3 g4
              have HX0 := Lib.hid hx0
              clear hx0
              go_wp2_with fail
              refine HOV.out.mono ?_
              rintro e w1 ⟨rfl, f1⟩
              have HO1 := Lib.hid (HOa.out.keep f1)
              have HG1 := Lib.hid (HGa.out.kept f1 (fun h => h))
              have hsc1 := (f1.cell (cell_lt hsa)).trans hsa
              have hbs1 := cell_lt hsc1
              clear q0 q1 q2 q3 q4 z0 i0 i1 i2 i3 i4 i5 z1 p0 p1 z2 y y2 y3 g0 g1 g2 g3 g4 zg hsc hbs hsa HOa HGa HOV f1 fa
              have q0 := HO1.out.b0.cell 0
              have q1 := HO1.out.b0.cell 1
              have q2 := HO1.out.b0.cell 2
              have q3 := HO1.out.b0.cell 3
              have q4 := HO1.out.b0.cell 4
              have z0 := HO1.out.b0.lt
              have i0 := HO1.out.b1.cell 0
              have i1 := HO1.out.b1.cell 1
              have i2 := HO1.out.b1.cell 2
              have i3 := HO1.out.b1.cell 3
              have i4 := HO1.out.b1.cell 4
              have i5 := HO1.out.b1.cell 5
              have z1 := HO1.out.b1.lt
              have p0 := HO1.out.b2.cell 0
              have p1 := HO1.out.b2.cell 1
              have z2 := HO1.out.b2.lt
              have y := HO1.out.out.frozen i
              have y2 := HO1.out.out.bcell hlt
              have y3 := HO1.out.out.lt
              simp only [List.getElem?_toArray, List.getElem?_cons_succ, List.getElem?_cons_zero] at q0 q1 q2 q3 q4 i0 i1 i2 i3 i4 i5 p0 p1
              have g0 := HG1.out.cell 0
              have g1 := HG1.out.cell 1
              have g2 := HG1.out.cell 2
              have g3 := HG1.out.cell 3
              have g4 := HG1.out.cell 4
              have zg := HG1.out.lt
              simp only [List.getElem?_toArray, List.getElem?_cons_succ, List.getElem?_cons_zero] at g0 g1 g2 g3 g4
              cases hov : ovP (⟨xk, xn⟩ : PlaceV) ⟨ak, an⟩ with
              | false =>
                have hpa : ¬ (⟨xk, xn⟩ : PlaceV) = ⟨ak, an⟩ := fun e => by rw [e, ovP_refl HAK] at hov; cases hov
                rw [decide_eq_false hpa] at heq
                have HPA := Lib.hid hpa
                have HOVB := Lib.hid hov
                clear hpa hov
                have HP := Lib.hid (HO1.out.put true)
                have HN := Lib.hid (HP.out.done (by rw [HGX.out]; simp [giveX, HSI.out, HX0.out, HOVB.out, HTD.out, HPA.out, HAZ.out, ibeq]))
                go_wp2
                go_roundw
                case rel => exact ⟨i + 1, by go_num, by omega, HN⟩
                case measure => simp [intOf]; omega
              | true =>
                by_cases hpa : (⟨xk, xn⟩ : PlaceV) = ⟨ak, an⟩
                · rw [decide_eq_true hpa] at heq
                  have HPA := Lib.hid hpa
                  have HOVB := Lib.hid hov
                  have HPV := Lib.hid (ovP_refl (a := ⟨ak, an⟩) HAK)
                  clear hpa hov
                  have HP := Lib.hid (HO1.out.put false)
                  have HN := Lib.hid (HP.out.done (by rw [HGX.out]; simp [giveX, HSI.out, HX0.out, HOVB.out, HTD.out, HPA.out, HPV.out, HAZ.out, ibeq]))
                  go_wp2
                  go_roundw
                  case rel => exact ⟨i + 1, by go_num, by omega, HN⟩
                  case measure => simp [intOf]; omega
                · rw [decide_eq_false hpa] at heq
                  have HPA := Lib.hid hpa
                  have HOVB := Lib.hid hov
                  clear hpa hov
                  have HP := Lib.hid (HO1.out.put false)
                  have HN := Lib.hid (HP.out.done (by rw [HGX.out]; simp [giveX, HSI.out, HX0.out, HOVB.out, HTD.out, HPA.out, HAZ.out, ibeq]))
                  go_wp2
                  go_roundw
                  case rel => exact ⟨i + 1, by go_num, by omega, HN⟩
                  case measure => simp [intOf]; omega
  · obtain rfl : i = all.length := by omega
    have HE := Lib.hid (show Blk wr (w.heap.size + 3) 4 (mkB all.length F) from by rw [← upTo_all]; exact HO.out.out)
    go_wp2
    go_ret
    exact HDEF.out _ _ ⟨(w.heap.size + 3), rfl, by omega, HE.out, HO.out.fr⟩
end Go.Proofs.Ytodmkjeankbieab

