/- Texts of this claim, packed. -/
import Derived.Test.YtodmkjeankbieabKAllk11
import Derived.Test.YtodmkjeankbieabKAllk12
set_option linter.all false
namespace Go.Proofs.Ytodmkjeankbieab
open Go.RowKit Go.Sort Go.Maps

theorem Reads.old2 {w : World} {R : Nat → Prop} {size n : Nat} {A : Option Addr} {xs : List Value} (h : Reads w R size A n xs) (hs : 0 < size) : Reads w (fun b => b < w.heap.size) size A n xs :=
 (Reads.both h hs).more (fun _ hb => hb.2)
theorem RdPg.old {w : World} {R : Nat → Prop} {v : Value} {p : Pg} (h : RdPg w R v p) : RdPg w (fun b => b < w.heap.size) v p := by
 obtain ⟨vw, vc, e, ⟨A, c, e1, hl, hr⟩, ⟨A', c', e2, hl', hr', ho'⟩⟩ := h
 exact ⟨vw, vc, e, ⟨A, c, e1, hl, Reads.old2 hr (by decide)⟩, ⟨A', c', e2, hl', Reads.old2 hr' (by decide), ho'⟩⟩
theorem fcnd_of {p : Pg} {sg sl : Nat} {l : Pd} (hm : mayL p sg l = true) (hsl : l.slots = (sl : Int)) : FCnd p sg sl (fnumsTo p.code p.code.length) := by
 obtain ⟨m1, m2, m3, m4, m5⟩ := mayL_facts hm
 obtain ⟨l1, l2, l3, l4⟩ := mayB_len m1
 obtain ⟨t1, t2, t3⟩ := tg_facts m2
 exact ⟨fnumsTo_all p, l1, l2, l3, l4, by omega, by omega⟩

theorem ofAll_any (R R' : Nat → Prop) (v vl : Value) (p : Pg) (sg sl : Nat) (l : Pd) (w : World) (h : RdPg w R v p) (hL : RdPd w R' vl l) (hm : mayL p sg l = true) (hsl : l.slots = (sl : Int)) :
   Calls Try.prog 62 #[v, .agg #[.int .i64 (sg : Int)], .int .i64 (sl : Int)] w fun e w' => ∃ gw, e = .returned (.pointer (some ⟨gw, 0, none⟩)) ∧ Fr w w' ∧
     ∀ w2, Fr w' w2 → Calls Try.prog 63 #[.pointer (some ⟨gw, 0, none⟩), vl] w2 (AllPost w2 p sg l) := by
 have hC := fcnd_of hm hsl
 refine (factsOf_any _ v p sg sl w h.old hC.w hC.c hC.s hC.l (fun x hx => hx)).mono ?_
 rintro e w' ⟨gw, A, c, A', c', Ap, cp, An, cn, rfl, hW, hf, _⟩
 refine ⟨gw, rfl, hf, fun w2 hf2 => ?_⟩
 exact all_any gw _ R' p sg sl _ A c A' c' Ap cp An cn vl l w2 (hW.fr hf2) hC ((hL.kept hf (fun _ _ h => h)).kept hf2 (fun _ _ h => h)) hm hsl (fun x hx => Nat.lt_of_lt_of_le hx hf2.size)

def TakesPost (w : World) (p : Pg) (sg : Int) (l : Pd) (e : Ending) (w' : World) : Prop := ∃ b : Bool, e = .returned (.bool b) ∧ (b = true ↔ (mayL p sg l = true ∧ Taken p sg l)) ∧ Fr w w'
set_option maxHeartbeats 4000000 in
set_option maxRecDepth 100000 in
theorem takes_any (R R' : Nat → Prop) (v vl : Value) (p : Pg) (sg : Int) (l : Pd) (w : World) (h : RdPg w R v p) (hL : RdPd w R' vl l) :
   Calls Try.prog 27 #[v, tgV sg, vl] w (TakesPost w p sg l) := by
 have H := Lib.hid h
 have HL := Lib.hid hL
 obtain ⟨vw, vc, rfl, ⟨A1, c1, rfl, hl1, hr1⟩, ⟨A, c2, rfl, hl2, hr2, ho2⟩⟩ := h
 obtain ⟨vr, lv, rfl, hsl, ⟨Al, cl, rfl, hlr, hrr, hor⟩, hrows⟩ := hL
 clear hr1 hr2 ho2 hrr hor hrows hsl
 have HMy := Lib.hid (fun w2 (hf : Fr w w2) => placeMay_any R R' _ _ p sg l w2 (H.out.kept hf (fun _ _ h => h)) (HL.out.kept hf (fun _ _ h => h)))
 have HQ := Lib.hid (Q3.start w #[.slice A1 p.wide.length c1, .slice A p.code.length c2] #[.int .i64 sg] #[.int .i64 l.slots, .slice Al lv.length cl])
 unfold tgV at HMy ⊢
 go_enter Try.func27, Try.ntmps27
 go_wp2_with fail
 refine (HMy.out _ HQ.out.fr).mono ?_
 rintro e w2 ⟨rfl, f2⟩
 have HQ2 := Lib.hid (HQ.out.keep f2)
 clear HQ f2 HMy
 cases hm : mayL p sg l with
 | false =>
   have HM := Lib.hid hm
   clear hm
   go_wp2
   go_ret
   exact ⟨false, rfl, iff_of_false (by decide) (fun h => by rw [HM.out] at h; cases h.1), HQ2.out.fr⟩
 | true =>
   have HM := Lib.hid hm
   obtain ⟨m1, m2, m3, m4, m5⟩ := mayL_facts hm
   obtain ⟨t1, t2, t3⟩ := tg_facts m2
   clear hm m1 m2 m5
   obtain ⟨sgn, rfl⟩ : ∃ n : Nat, sg = (n : Int) := ⟨sg.toNat, by omega⟩
   obtain ⟨sl, hsl⟩ : ∃ n : Nat, l.slots = (n : Int) := ⟨l.slots.toNat, by omega⟩
   have HSL := Lib.hid hsl
   have HOA := Lib.hid (fun w3 (hf : Fr w w3) => ofAll_any R R' _ _ p sgn sl l w3 (H.out.kept hf (fun _ _ h => h)) (HL.out.kept hf (fun _ _ h => h)) HM.out HSL.out)
   rw [hsl] at HQ2 HOA
   clear hsl m3 m4
   have q0 := HQ2.out.b0.cell 0
   have q1 := HQ2.out.b0.cell 1
   have t0 := HQ2.out.b1.cell 0
   have s0 := HQ2.out.b2.cell 0
   have s1 := HQ2.out.b2.cell 1
   have z0 := HQ2.out.b0.lt
   have z1 := HQ2.out.b1.lt
   have z2 := HQ2.out.b2.lt
   simp only [List.getElem?_toArray, List.getElem?_cons_succ, List.getElem?_cons_zero] at q0 q1 t0 s0 s1
   have HDEF : Hid (∀ (e : Ending) (w' : World), (∃ b : Bool, e = .returned (.bool b) ∧ (b = true ↔ (mayL p sgn l = true ∧ Taken p sgn l)) ∧ Fr w w') → TakesPost w p sgn l e w') := fun _ _ h => h
   go_wp2
   go_region_held3 (fun w' => w'.cell? ⟨w.heap.size, 0, none⟩ = some (.slice A1 p.wide.length c1) ∧ w'.cell? ⟨w.heap.size, 1, none⟩ = some (.slice A p.code.length c2) ∧ w'.cell? ⟨w.heap.size + 1, 0, none⟩ = some (.int .i64 (sgn : Int)) ∧ w'.cell? ⟨w.heap.size + 2, 0, none⟩ = some (.int .i64 (sl : Int)) ∧ w'.cell? ⟨w.heap.size + 2, 1, none⟩ = some (.slice Al lv.length cl))
     (first
       | go_keep
       | exact sa
       | exact sb)
     (first
       | (go_at_call 62; refine (HOA.out _ (HQ2.out.fr.trans (Kept.refl (fun _ => False) w2).drew)).mono ?_; rintro e wa ⟨gw, rfl, fa0, hall⟩; have fa := (Kept.refl (fun _ => False) w2).drew.trans fa0; have sa := (show wa.cell? ⟨w.heap.size, 0, none⟩ = some (.slice A1 p.wide.length c1) ∧ wa.cell? ⟨w.heap.size, 1, none⟩ = some (.slice A p.code.length c2) ∧ wa.cell? ⟨w.heap.size + 1, 0, none⟩ = some (.int .i64 (sgn : Int)) ∧ wa.cell? ⟨w.heap.size + 2, 0, none⟩ = some (.int .i64 (sl : Int)) ∧ wa.cell? ⟨w.heap.size + 2, 1, none⟩ = some (.slice Al lv.length cl) from ⟨(fa.cell z0 (fun h => h)).trans q0, (fa.cell z0 (fun h => h)).trans q1, (fa.cell z1 (fun h => h)).trans t0, (fa.cell z2 (fun h => h)).trans s0, (fa.cell z2 (fun h => h)).trans s1⟩); have hall2 := hall _ (Kept.refl (fun _ => False) wa))
       | (go_at_call 63; refine hall2.mono ?_; rintro e wb ⟨fb0, g0, vs, ok, rfl, _, _, _, hok⟩; have fb := fa.trans fb0; have sb := (show wb.cell? ⟨w.heap.size, 0, none⟩ = some (.slice A1 p.wide.length c1) ∧ wb.cell? ⟨w.heap.size, 1, none⟩ = some (.slice A p.code.length c2) ∧ wb.cell? ⟨w.heap.size + 1, 0, none⟩ = some (.int .i64 (sgn : Int)) ∧ wb.cell? ⟨w.heap.size + 2, 0, none⟩ = some (.int .i64 (sl : Int)) ∧ wb.cell? ⟨w.heap.size + 2, 1, none⟩ = some (.slice Al lv.length cl) from ⟨(fb.cell z0 (fun h => h)).trans q0, (fb.cell z0 (fun h => h)).trans q1, (fb.cell z1 (fun h => h)).trans t0, (fb.cell z2 (fun h => h)).trans s0, (fb.cell z2 (fun h => h)).trans s1⟩)))
   rename_i hHeld
   clear hHeld
   have HF := Lib.hid (HQ2.out.fr.trans fb)
   have HOK : Hid (ok = true ↔ (mayL p sgn l = true ∧ Taken p sgn l)) := ⟨fun h => ⟨HM.out, hok.1 h⟩, fun h => hok.2 h.2⟩
   clear sa sb fa fb fa0 fb0 hok hall hall2 q0 q1 t0 s0 s1 z0 z1 z2
   go_wp2
   go_ret
   exact HDEF.out _ _ ⟨ok, rfl, HOK.out, HF.out⟩
end Go.Proofs.Ytodmkjeankbieab


namespace Go.Proofs.Ytodmkjeankbieab
open Go.RowKit Go.Sort

theorem RdPg.numOk {w : World} {R : Nat → Prop} {v : Value} {p : Pg} (h : RdPg w R v p) : NumOk p := by
 obtain ⟨_, _, _, _, ⟨_, _, _, _, _, ho⟩⟩ := h
 exact fun i hi => (ho i hi).2.2.2.2.2
end Go.Proofs.Ytodmkjeankbieab


namespace Go.Proofs.Ytodmkjeankbieab
open Go.RowKit Go.Sort

set_option maxHeartbeats 400000 in
theorem refNear6_any (n : Int) (w : World) : Calls Try.prog 73 #[.int .i64 n] w fun e w' => e = .returned (.bool (decide (-4611686018427387904 ≤ n ∧ n ≤ 4611686018427387903))) ∧ w = w' := by
 go_enter Try.func73, Try.ntmps73
 go_wp2
 all_goals go_ret
 all_goals refine ⟨ret_b ?_, rfl⟩
 all_goals rw [Bool.eq_iff_iff]
 all_goals simp only [Bool.and_eq_true, Bool.or_eq_true, decide_eq_true_eq, beq_iff_eq, Bool.false_eq_true, false_iff, true_iff]
 all_goals omega
set_option maxHeartbeats 400000 in
theorem refHalf_any (a b : Int) (w : World) (hb : -4611686018427387904 ≤ b ∧ b ≤ 4611686018427387903) : Calls Try.prog 74 #[.int .i64 a, .int .i64 b] w fun e w' => e = .returned (.bool (decide (a / 2 = b))) ∧ w = w' := by
 obtain ⟨h0, h1⟩ := hb
 go_enter Try.func74, Try.ntmps74
 go_wp2
 all_goals go_ret
 all_goals refine ⟨ret_b ?_, rfl⟩
 all_goals rw [Bool.eq_iff_iff]
 all_goals simp only [Bool.and_eq_true, Bool.or_eq_true, decide_eq_true_eq, beq_iff_eq, Bool.false_eq_true, false_iff, true_iff]
 all_goals omega

set_option maxHeartbeats 1000000 in
set_option maxRecDepth 100000 in
theorem refOverlap_any (a b : PlaceV) (w : World) (ha : a.ok) (hb : b.ok) : Calls Try.prog 32 #[a.val, b.val] w fun e w' => e = .returned (.bool (ovP a b)) ∧ Fr w w' := by
 obtain ⟨ak, an⟩ := a
 obtain ⟨bk, bn⟩ := b
 have HF := Lib.hid (show Fr w ((w.alloc (.cells #[.int .i64 ak, .int .i64 an] 57)).alloc (.cells #[.int .i64 bk, .int .i64 bn] 57)) from ((Kept.refl _ w).alloc _).alloc _)
 obtain ⟨_, ⟨ha0, ha1⟩⟩ := ha
 obtain ⟨_, ⟨hb0, hb1⟩⟩ := hb
 simp only at ha0 ha1 hb0 hb1
 have HNA := Lib.hid (fun w => refNear6_any an w)
 have HNB := Lib.hid (fun w => refNear6_any bn w)
 unfold PlaceV.val
 simp only
 by_cases hk : ak = bk
 · subst hk
   have HV : Hid (ovP ⟨ak, an⟩ ⟨ak, bn⟩ = (an == bn)) := by
     show _ = _; unfold ovP; simp only; rw [if_neg (by omega), if_neg (by omega), Bool.eq_iff_iff]; simp
   go_enter Try.func32, Try.ntmps32
   go_wp2
   go_ret
   exact ⟨ret_b HV.out.symm, HF.out⟩
 · by_cases h12 : ak = 1 ∧ bk = 2
   · obtain ⟨rfl, rfl⟩ := h12
     have HV : Hid (ovP ⟨1, an⟩ ⟨2, bn⟩ = decide (an / 2 = bn)) := by
       show _ = _; rw [Bool.eq_iff_iff]; simp [ovP]
     by_cases hn : -4611686018427387904 ≤ bn ∧ bn ≤ 4611686018427387903
     · have HH := Lib.hid (fun w => refHalf_any an bn w hn)
       rw [decide_eq_true hn] at HNB
       clear hk hn
       go_enter Try.func32, Try.ntmps32
       go_wp2_with fail
       refine (HNB.out _).mono ?_
       rintro e w1 ⟨rfl, rfl⟩
       go_wp2_with fail
       refine (HH.out _).mono ?_
       rintro e w1 ⟨rfl, rfl⟩
       go_wp2
       go_ret
       exact ⟨ret_b HV.out.symm, HF.out⟩
     · have HV2 : Hid (ovP ⟨1, an⟩ ⟨2, bn⟩ = false) := by show _ = _; rw [HV.out]; exact decide_eq_false (by omega)
       rw [decide_eq_false hn] at HNB
       clear hk hn HV
       go_enter Try.func32, Try.ntmps32
       go_wp2_with fail
       refine (HNB.out _).mono ?_
       rintro e w1 ⟨rfl, rfl⟩
       go_wp2
       go_ret
       exact ⟨ret_b HV2.out.symm, HF.out⟩
   · by_cases h21 : ak = 2 ∧ bk = 1
     · obtain ⟨rfl, rfl⟩ := h21
       have HV : Hid (ovP ⟨2, an⟩ ⟨1, bn⟩ = decide (bn / 2 = an)) := by
         show _ = _; rw [Bool.eq_iff_iff]; simp [ovP]
       by_cases hn : -4611686018427387904 ≤ an ∧ an ≤ 4611686018427387903
       · have HH := Lib.hid (fun w => refHalf_any bn an w hn)
         rw [decide_eq_true hn] at HNA
         clear hk hn h12
         go_enter Try.func32, Try.ntmps32
         go_wp2_with fail
         refine (HNA.out _).mono ?_
         rintro e w1 ⟨rfl, rfl⟩
         go_wp2_with fail
         refine (HH.out _).mono ?_
         rintro e w1 ⟨rfl, rfl⟩
         go_wp2
         go_ret
         exact ⟨ret_b HV.out.symm, HF.out⟩
       · have HV2 : Hid (ovP ⟨2, an⟩ ⟨1, bn⟩ = false) := by show _ = _; rw [HV.out]; exact decide_eq_false (by omega)
         rw [decide_eq_false hn] at HNA
         clear hk hn HV h12
         go_enter Try.func32, Try.ntmps32
         go_wp2_with fail
         refine (HNA.out _).mono ?_
         rintro e w1 ⟨rfl, rfl⟩
         go_wp2
         go_ret
         exact ⟨ret_b HV2.out.symm, HF.out⟩
     · have HV : Hid (ovP ⟨ak, an⟩ ⟨bk, bn⟩ = false) := by
         show _ = _; unfold ovP; simp only; rw [if_neg h21, if_neg h12]; exact decide_eq_false (by omega)
       have ek : (ak == bk) = false := by simpa using hk
       rcases (by omega : (ak = 1 ∧ bk ≠ 2) ∨ (ak = 2 ∧ bk ≠ 1) ∨ (ak ≠ 1 ∧ ak ≠ 2)) with ⟨rfl, e2⟩ | ⟨rfl, e2⟩ | ⟨e1, e2⟩
       · have e2' : (bk == 2) = false := by simpa using e2
         clear hk h12 h21 e2
         go_enter Try.func32, Try.ntmps32
         go_wp2
         go_ret
         exact ⟨ret_b HV.out.symm, HF.out⟩
       · have e2' : (bk == 1) = false := by simpa using e2
         clear hk h12 h21 e2
         go_enter Try.func32, Try.ntmps32
         go_wp2
         go_ret
         exact ⟨ret_b HV.out.symm, HF.out⟩
       · have e1' : (ak == 1) = false := by simpa using e1
         have e2' : (ak == 2) = false := by simpa using e2
         clear hk h12 h21 e1 e2
         go_enter Try.func32, Try.ntmps32
         go_wp2
         go_ret
         exact ⟨ret_b HV.out.symm, HF.out⟩

def tgAt (sg n : Int) : Prop := 4 ≤ n ∧ n ≤ 18 ∧ n % 2 = 0 ∧ ∀ m, 4 ≤ m → m < n → m % 2 = 0 → sg ≠ m
set_option maxHeartbeats 400000 in
theorem refTarget_any (sg : Int) (w : World) : Calls Try.prog 34 #[tgV sg] w fun e w' => e = .returned (.bool (tgB sg)) ∧ Fr w w' := by
 have HF := Lib.hid (show Fr w (w.alloc (.cells #[.int .i64 sg] 47)) from (Kept.refl _ w).alloc _)
 have HB := Lib.hid (Blk.new w 47 #[.int .i64 sg])
 unfold tgV
 go_enter Try.func34, Try.ntmps34
 go_wp2
 go_loopw [3] (fun i wr => ∃ n : Int, i = .int .i64 n ∧ Hid (tgAt sg n) ∧ Hid (Blk wr w.heap.size 47 #[.int .i64 sg]) ∧ Hid (Fr w wr)) (fun i _ => 20 - (intOf i).toNat)
 case atStart => exact ⟨4, rfl, ⟨by omega, by omega, by omega, fun m h1 h2 => by omega⟩, HB, HF⟩
 case round =>
   obtain ⟨n, rfl, ht, hb, hf⟩ := hrel
   have t0 := hb.out.cell 0
   have zt := hb.out.lt
   simp only [List.getElem?_toArray, List.getElem?_cons_succ, List.getElem?_cons_zero] at t0
   obtain ⟨h0, h1, h2, h3⟩ := ht.out
   by_cases h16 : n ≤ 16
   · by_cases he : sg = n
     · subst he
       have HV : Hid (tgB sg = true) := by show _ = _; unfold tgB; simp; omega
       go_wp2
       go_ret
       exact ⟨ret_b HV.out.symm, hf.out⟩
     · have he' : (sg == n) = false := by simpa using he
       have HN : Hid (tgAt sg (n + 2)) := ⟨by omega, by omega, by omega, fun m q0 q1 q2 => by
         by_cases e : m = n
         · subst e; exact he
         · exact h3 m q0 (by omega) q2⟩
       clear he h3 ht
       go_wp2
       go_roundw
       case rel => exact ⟨n + 2, by go_num, HN, hb, hf⟩
       case measure => simp [intOf]; omega
   · have HV : Hid (tgB sg = false) := by
       show _ = _
       unfold tgB
       have := h3 sg
       rw [Bool.and_eq_false_iff, Bool.and_eq_false_iff]
       by_cases q0 : 4 ≤ sg
       · by_cases q1 : sg ≤ 16
         · right
           apply decide_eq_false
           intro q2
           exact this q0 (by omega) q2 rfl
         · left; right; exact decide_eq_false q1
       · left; left; exact decide_eq_false q0
     clear h3 ht
     go_wp2
     go_ret
     exact ⟨ret_b HV.out.symm, hf.out⟩

set_option maxHeartbeats 1000000 in
theorem refIs_any (sg sl : Int) (a : PlaceV) (w : World) (h4 : 0 ≤ sg) (h16 : sg ≤ 16) (h2 : sg % 2 = 0) (ha : a.ok) : Calls Try.prog 31 #[tgV sg, .int .i64 sl, a.val] w fun e w' => e = .returned (.bool (isR sg sl a)) ∧ Fr w w' := by
 obtain ⟨k, n⟩ := a
 have HF := Lib.hid (show Fr w ((w.alloc (.cells #[.int .i64 sg] 47)).alloc (.cells #[.int .i64 k, .int .i64 n] 57)) from ((Kept.refl _ w).alloc _).alloc _)
 obtain ⟨_, ⟨ha0, ha1⟩⟩ := ha
 simp only at ha0 ha1
 unfold tgV PlaceV.val
 simp only
 by_cases k1 : k = 1
 · subst k1
   have HV : Hid (isR sg sl ⟨1, n⟩ = decide (0 ≤ n ∧ n < sg)) := by show _ = _; simp [isR]
   go_enter Try.func31, Try.ntmps31
   go_wp2
   all_goals go_ret
   all_goals refine ⟨ret_b ?_, HF.out⟩
   all_goals rw [HV.out]
   all_goals rw [Bool.eq_iff_iff]
   all_goals simp only [Bool.and_eq_true, Bool.or_eq_true, decide_eq_true_eq, beq_iff_eq, Bool.false_eq_true, false_iff, true_iff]
   all_goals omega
 · have k1' : (k == 1) = false := by simpa using k1
   by_cases k2 : k = 2
   · subst k2
     have HV : Hid (isR sg sl ⟨2, n⟩ = decide (0 ≤ n ∧ 2 * n < sg ∧ n < 100)) := by show _ = _; simp [isR]
     by_cases h100 : n < 100
     · by_cases h0 : 0 ≤ n
       · go_enter Try.func31, Try.ntmps31
         go_wp2
         all_goals go_ret
         all_goals refine ⟨ret_b ?_, HF.out⟩
         all_goals rw [HV.out]
         all_goals rw [Bool.eq_iff_iff]
         all_goals simp only [Bool.and_eq_true, Bool.or_eq_true, decide_eq_true_eq, beq_iff_eq, Bool.false_eq_true, false_iff, true_iff]
         all_goals omega
       · go_enter Try.func31, Try.ntmps31
         go_wp2
         all_goals go_ret
         all_goals refine ⟨ret_b ?_, HF.out⟩
         all_goals rw [HV.out]
         all_goals rw [Bool.eq_iff_iff]
         all_goals simp only [Bool.and_eq_true, Bool.or_eq_true, decide_eq_true_eq, beq_iff_eq, Bool.false_eq_true, false_iff, true_iff]
         all_goals omega
     · go_enter Try.func31, Try.ntmps31
       go_wp2
       all_goals go_ret
       all_goals refine ⟨ret_b ?_, HF.out⟩
       all_goals rw [HV.out]
       all_goals rw [Bool.eq_iff_iff]
       all_goals simp only [Bool.and_eq_true, Bool.or_eq_true, decide_eq_true_eq, beq_iff_eq, Bool.false_eq_true, false_iff, true_iff]
       all_goals omega
   · have k2' : (k == 2) = false := by simpa using k2
     by_cases k3 : k = 3
     · subst k3
       have HV : Hid (isR sg sl ⟨3, n⟩ = decide (0 ≤ n ∧ n < sl)) := by show _ = _; simp [isR]
       go_enter Try.func31, Try.ntmps31
       go_wp2
       all_goals go_ret
       all_goals refine ⟨ret_b ?_, HF.out⟩
       all_goals rw [HV.out]
       all_goals rw [Bool.eq_iff_iff]
       all_goals simp only [Bool.and_eq_true, Bool.or_eq_true, decide_eq_true_eq, beq_iff_eq, Bool.false_eq_true, false_iff, true_iff]
       all_goals omega
     · have k3' : (k == 3) = false := by simpa using k3
       have HV : Hid (isR sg sl ⟨k, n⟩ = false) := by show _ = _; simp [isR, k1, k2, k3]
       go_enter Try.func31, Try.ntmps31
       go_wp2
       go_ret
       exact ⟨ret_b HV.out.symm, HF.out⟩
end Go.Proofs.Ytodmkjeankbieab


namespace Go.Proofs.Ytodmkjeankbieab
open Go.RowKit Go.Sort Go.Maps

def Fc.cellL (f : Fc) : List Value := [.int .i64 f.pl.k, .int .i64 f.pl.n, .bool f.temp, .int .i64 f.t, .int .u32 f.n]
theorem Fc.cellL_len (f : Fc) : f.cellL.length = 5 := rfl
theorem Reads.fc {w : World} {R : Nat → Prop} {A : Option Addr} {n i : Nat} {l : List Fc} (h : Reads w R 5 A n (l.flatMap Fc.cellL)) (hi : i < l.length) :
   ∃ b off, A = some ⟨b, off, none⟩ ∧ R b ∧ w.cell? ⟨b, off + i * 5, none⟩ = some (.int .i64 (fcAt l i).pl.k) ∧ w.cell? ⟨b, off + i * 5 + 1, none⟩ = some (.int .i64 (fcAt l i).pl.n) ∧ w.cell? ⟨b, off + i * 5 + 2, none⟩ = some (.bool (fcAt l i).temp) ∧
     w.cell? ⟨b, off + i * 5 + 3, none⟩ = some (.int .i64 (fcAt l i).t) ∧ w.cell? ⟨b, off + i * 5 + 4, none⟩ = some (.int .u32 ((fcAt l i).n : Int)) := by
 obtain ⟨e, h2⟩ := h.elem Fc.cellL_len (by omega)
 obtain ⟨b, off, hA, hR, hc⟩ := h2 (by omega)
 have hx : l[i]? = some (fcAt l i) := by rw [fcAt_get hi]; exact List.getElem?_eq_getElem hi
 exact ⟨b, off, hA, hR, hc i _ hx 0 _ rfl, hc i _ hx 1 _ rfl, hc i _ hx 2 _ rfl, hc i _ hx 3 _ rfl, hc i _ hx 4 _ rfl⟩

def stL (p : Pg) (ns : List Nat) (sg sl k : Nat) : List Int := if k = 0 then [0] else (List.range (manyP sg sl k)).map fun (n : Nat) => (startA p ns sg sl k n : Int)
structure RdSt (w : World) (R : Nat → Prop) (v : Value) (p : Pg) (ns : List Nat) (sg sl : Nat) : Prop where
 ex : ∃ (b off c : Nat) (vs : Nat → Value), v = .slice (some ⟨b, off, none⟩) 4 c ∧ R b ∧ ∀ k, k < 4 → ∃ u, vs k = u ∧ w.cell? ⟨b, off + k, none⟩ = some u ∧ RdI w R u (stL p ns sg sl k)
theorem RdSt.kept {w w' : World} {R S : Nat → Prop} {v : Value} {p : Pg} {ns : List Nat} {sg sl : Nat} (h : RdSt w R v p ns sg sl) (hk : Kept S w w') (hs : ∀ b, R b → ¬ S b) : RdSt w' R v p ns sg sl := by
 obtain ⟨b, off, c, vs, e, hR, hc⟩ := h.ex
 refine ⟨b, off, c, vs, e, hR, fun k hk4 => ?_⟩
 obtain ⟨u, h1, h2, h3⟩ := hc k hk4
 exact ⟨u, h1, (hk.cell (p := ⟨b, off + k, none⟩) (cell_lt h2) (hs b hR)).trans h2, h3.kept hk hs⟩

structure W8 (w : World) (R : Nat → Prop) (vw vc : Value) (Aa : Option Addr) (ca : Nat) (vst vn : Value) (p : Pg) (ns : List Nat) (sg sl : Nat) : Prop where
 pg : RdPg w R (.agg #[vw, vc]) p
 all : Reads w R 5 Aa (allFs p ns sg sl).length ((allFs p ns sg sl).flatMap Fc.cellL)
 st : RdSt w R vst p ns sg sl
theorem W8.kept {w w' : World} {R S : Nat → Prop} {vw vc : Value} {Aa : Option Addr} {ca : Nat} {vst vn : Value} {p : Pg} {ns : List Nat} {sg sl : Nat} (h : W8 w R vw vc Aa ca vst vn p ns sg sl) (hk : Kept S w w') (hs : ∀ b, R b → ¬ S b) : W8 w' R vw vc Aa ca vst vn p ns sg sl :=
 ⟨h.pg.kept hk hs, h.all.kept hk hs, h.st.kept hk hs⟩
theorem W8.fr {w w' : World} {R : Nat → Prop} {vw vc : Value} {Aa : Option Addr} {ca : Nat} {vst vn : Value} {p : Pg} {ns : List Nat} {sg sl : Nat} (h : W8 w R vw vc Aa ca vst vn p ns sg sl) (hk : Fr w w') : W8 w' R vw vc Aa ca vst vn p ns sg sl := h.kept hk (fun _ _ h => h)
def wCells (vw vc : Value) (Aa : Option Addr) (La ca : Nat) (vst vn : Value) : Array Value := #[vw, vc, .slice Aa La ca, vst, vn]

structure Cnd8 (p : Pg) (ns : List Nat) (sg sl : Nat) : Prop where
 ns : NumsOk p ns
 w1 : 1 ≤ p.wide.length
 w : p.wide.length ≤ 12
 c1 : 1 ≤ p.code.length
 c : p.code.length ≤ 40
 s : sg ≤ 16
 l : sl ≤ 12
 no : NumOk p
section
variable {p : Pg} {ns : List Nat} {sg sl : Nat}
theorem Cnd8.mem (h : Cnd8 p ns sg sl) (f : Fc) : f ∈ allFs p ns sg sl ↔ FactIn p sg sl f := allFs_mem h.ns f
theorem Cnd8.nodup (h : Cnd8 p ns sg sl) : (allFs p ns sg sl).Nodup := allFs_nodup h.ns
theorem Cnd8.len (h : Cnd8 p ns sg sl) : (allFs p ns sg sl).length ≤ 2400 :=
 Nat.le_trans (nodup_le h.nodup fun f hf => factsL_mem ((h.mem f).1 hf)) (factsL_len h.w h.c h.s h.l)
theorem Cnd8.num (h : Cnd8 p ns sg sl) {f : Fc} (hf : FactIn p sg sl f) : f.n < 4294967296 := by
 rcases hf with ⟨_, _, _, _, h1⟩ | ⟨_, _, h1, _⟩ | ⟨_, _, _, _, h1⟩
 · exact numIn_lt h.no h1
 · rw [h1]; decide
 · exact numIn_lt h.no h1
end
theorem start_at {w : World} {R : Nat → Prop} {v : Value} {p : Pg} {ns : List Nat} {sg sl : Nat} (h : RdSt w R v p ns sg sl) {a : PlaceV} (ha : a = ⟨0, 0⟩ ∨ isB sg sl a = true) :
   ∃ b off c b2 off2 n2 c2, ∃ (k m : Nat) (st : Nat), v = .slice (some ⟨b, off, none⟩) 4 c ∧ b < w.heap.size ∧ b2 < w.heap.size ∧ a.k = (k : Int) ∧ a.n = (m : Int) ∧ k < 4 ∧ m < n2 ∧ w.cell? ⟨b, off + k, none⟩ = some (.slice (some ⟨b2, off2, none⟩) n2 c2) ∧
     w.cell? ⟨b2, off2 + m, none⟩ = some (.int .i64 (st : Int)) ∧ Seg (allFs p ns sg sl) a st := by
 obtain ⟨b, off, c, vs, e, hR, hc⟩ := h.ex
 have key : ∀ (k m st : Nat), a.k = (k : Int) → a.n = (m : Int) → k < 4 → (stL p ns sg sl k)[m]? = some (st : Int) → Seg (allFs p ns sg sl) a st →
     ∃ b off c b2 off2 n2 c2, ∃ (k m : Nat) (st : Nat), v = .slice (some ⟨b, off, none⟩) 4 c ∧ b < w.heap.size ∧ b2 < w.heap.size ∧ a.k = (k : Int) ∧ a.n = (m : Int) ∧ k < 4 ∧ m < n2 ∧ w.cell? ⟨b, off + k, none⟩ = some (.slice (some ⟨b2, off2, none⟩) n2 c2) ∧
       w.cell? ⟨b2, off2 + m, none⟩ = some (.int .i64 (st : Int)) ∧ Seg (allFs p ns sg sl) a st := fun k m st h1 h2 h3 h4 h5 => by
   obtain ⟨u, _, hu, hr⟩ := hc k h3
   obtain ⟨b2, off2, c2, e2, _, hb2, hcell⟩ := hr.at_ h4
   subst e2
   have hm : m < (stL p ns sg sl k).length := (List.getElem?_eq_some_iff.1 h4).1
   exact ⟨b, off, c, b2, off2, (stL p ns sg sl k).length, c2, k, m, st, e, cell_lt hu, hb2, h1, h2, h3, hm, hu, hcell, h5⟩
 rcases ha with rfl | ha
 · exact key 0 0 0 rfl rfl (by omega) (by simp [stL]) seg_zero
 · obtain ⟨k, n⟩ := a
   have h2 : ∃ k' m : Nat, k = (k' : Int) ∧ n = (m : Int) ∧ (k' = 1 ∨ k' = 2 ∨ k' = 3) ∧ m < manyP sg sl k' := by
     unfold isB at ha
     have ha := of_decide_eq_true ha
     unfold manyP
     simp only at ha
     split at ha
     · exact ⟨1, n.toNat, by omega, by omega, by omega, by simp; omega⟩
     · split at ha
       · exact ⟨2, n.toNat, by omega, by omega, by omega, by simp; omega⟩
       · split at ha
         · exact ⟨3, n.toNat, by omega, by omega, by omega, by simp; omega⟩
         · omega
   obtain ⟨k', m, rfl, rfl, hk, hm⟩ := h2
   refine key k' m (startA p ns sg sl k' m) rfl rfl (by omega) ?_ (seg_at hk hm)
   unfold stL
   rw [if_neg (by omega), List.getElem?_map, List.getElem?_range hm]
   rfl

theorem eql_fc (a b : Fc) (w : World) : (binOp .eql 140 (.agg #[.int .i64 a.pl.k, .int .i64 a.pl.n, .bool a.temp, .int .i64 a.t, .int .u32 (a.n : Int)]) (.agg #[.int .i64 b.pl.k, .int .i64 b.pl.n, .bool b.temp, .int .i64 b.t, .int .u32 (b.n : Int)])).run Try.prog w = .ok (.bool (decide (a = b))) w := by
 go_simp
 rcases a with ⟨⟨a1, a2⟩, a3, a4, a5⟩
 rcases b with ⟨⟨b1, b2⟩, b3, b4, b5⟩
 simp only [Fc.mk.injEq, PlaceV.mk.injEq]
 by_cases h1 : a1 = b1 <;> by_cases h2 : a2 = b2 <;> by_cases h3 : a3 = b3 <;> by_cases h4 : a4 = b4 <;> by_cases h5 : a5 = b5 <;> simp [h1, h2, h3, h4, h5]
 all_goals omega
theorem eql_plc (a b : PlaceV) (w : World) : (binOp .eql 57 (.agg #[.int .i64 a.k, .int .i64 a.n]) (.agg #[.int .i64 b.k, .int .i64 b.n])).run Try.prog w = .ok (.bool (decide (a = b))) w := by
 go_simp
 rcases a with ⟨a1, a2⟩
 rcases b with ⟨b1, b2⟩
 simp only [PlaceV.mk.injEq]
 by_cases h1 : a1 = b1 <;> by_cases h2 : a2 = b2 <;> simp [h1, h2]

set_option maxHeartbeats 4000000 in
set_option maxRecDepth 100000 in
theorem find8_any (R : Nat → Prop) (vw vc : Value) (Aa : Option Addr) (ca : Nat) (vst vn : Value) (p : Pg) (ns : List Nat) (sg sl : Nat) (bs : Nat) (s : Bits) (f : Fc) (w : World)
   (h : W8 w R vw vc Aa ca vst vn p ns sg sl) (hC : Cnd8 p ns sg sl) (hs : Blk w bs 4 (mkB (allFs p ns sg sl).length s)) (hf : f.pl = ⟨0, 0⟩ ∨ isB sg sl f.pl = true) :
   Calls Try.prog 122 #[.agg #[vw, vc, .slice Aa (allFs p ns sg sl).length ca, vst, vn], .slice (some ⟨bs, 0, none⟩) (allFs p ns sg sl).length (allFs p ns sg sl).length, f.val] w fun e w' => e = .returned (.bool (findB (allFs p ns sg sl) s f)) ∧ Fr w w' := by
 obtain ⟨b, off, c, b2, off2, n2, c2, k, m, st, rfl, hb, hb2, hk, hm, hk4, hm2, u0, u1, hseg⟩ := start_at h.st hf
 have hL := hC.len
 have HALL := Lib.hid h.all
 have HSG := Lib.hid hseg
 have HND := Lib.hid hC.nodup
 have HS := Lib.hid hs
 have hst := hseg.le
 have HFB : Hid (∀ r, findB (allFs p ns sg sl) s f = r → ∀ w', Fr w w' → (Ending.returned (.bool r) = .returned (.bool (findB (allFs p ns sg sl) s f)) ∧ Fr w w')) := fun r hr w' hf => ⟨by rw [hr], hf⟩
 have F0 := Lib.hid (show Fr w ((w.alloc (.cells (wCells vw vc Aa (allFs p ns sg sl).length ca (.slice (some ⟨b, off, none⟩) 4 c) vn) 121)).alloc (.cells #[.int .i64 f.pl.k, .int .i64 f.pl.n, .bool f.temp, .int .i64 f.t, .int .u32 (f.n : Int)] 140)) from ((Kept.refl _ w).alloc _).alloc _)
 have B0 := Lib.hid (show Blk ((w.alloc (.cells (wCells vw vc Aa (allFs p ns sg sl).length ca (.slice (some ⟨b, off, none⟩) 4 c) vn) 121)).alloc (.cells #[.int .i64 f.pl.k, .int .i64 f.pl.n, .bool f.temp, .int .i64 f.t, .int .u32 (f.n : Int)] 140)) w.heap.size 121 (wCells vw vc Aa (allFs p ns sg sl).length ca (.slice (some ⟨b, off, none⟩) 4 c) vn) from (Blk.new w _ _).alloc _)
 have B1 := Lib.hid (show Blk ((w.alloc (.cells (wCells vw vc Aa (allFs p ns sg sl).length ca (.slice (some ⟨b, off, none⟩) 4 c) vn) 121)).alloc (.cells #[.int .i64 f.pl.k, .int .i64 f.pl.n, .bool f.temp, .int .i64 f.t, .int .u32 (f.n : Int)] 140)) (w.heap.size + 1) 140 #[.int .i64 f.pl.k, .int .i64 f.pl.n, .bool f.temp, .int .i64 f.t, .int .u32 (f.n : Int)] from by
   have := Blk.new (w.alloc (.cells (wCells vw vc Aa (allFs p ns sg sl).length ca (.slice (some ⟨b, off, none⟩) 4 c) vn) 121)) 140 #[.int .i64 f.pl.k, .int .i64 f.pl.n, .bool f.temp, .int .i64 f.t, .int .u32 (f.n : Int)]
   simpa using this)
 unfold wCells at F0 B0 B1
 have hk0 : (0 : Int) ≤ (k : Int) := Int.natCast_nonneg _
 have hk1 : (k : Int) < 4 := by omega
 have hm0 : (0 : Int) ≤ (m : Int) := Int.natCast_nonneg _
 have hm1 : (m : Int) < (n2 : Int) := by omega
 clear h hs hf hseg
 generalize allFs p ns sg sl = all at *
 obtain ⟨⟨fk, fn⟩, ft, fT, fN⟩ := f
 unfold Fc.val
 simp only at hk hm F0 B0 B1 ⊢
 subst hk hm
 go_enter Try.func122, Try.ntmps122
 go_wp2
 go_quiet (fail)
 go_wp2
 go_loopw [7] (fun i wr => ∃ i' : Nat, i = .int .i64 i' ∧ st ≤ i' ∧ i' ≤ all.length ∧ Hid (∀ j, st ≤ j → j < i' → fcAt all j ≠ (⟨⟨(k : Int), (m : Int)⟩, ft, fT, fN⟩ : Fc)) ∧ Hid (Fr ((w.alloc (.cells #[vw, vc, .slice Aa all.length ca, .slice (some ⟨b, off, none⟩) 4 c, vn] 121)).alloc (.cells #[.int .i64 (k : Int), .int .i64 (m : Int), .bool ft, .int .i64 fT, .int .u32 (fN : Int)] 140)) wr)) (fun i _ => all.length - (intOf i).toNat)
 case atStart => exact ⟨st, rfl, Nat.le_refl _, hst, fun j h1 h2 => by omega, Lib.hid ((Kept.refl (fun _ => False) _).drewN nq)⟩
 case round =>
   obtain ⟨i, rfl, hi1, hi2, hno, hf⟩ := hrel
   have hB0 := B0.out.kept hf.out (fun h => h)
   have hB1 := B1.out.kept hf.out (fun h => h)
   have q1 := hB0.cell 2
   have g0 := hB1.cell 0
   have g1 := hB1.cell 1
   have g2 := hB1.cell 2
   have g3 := hB1.cell 3
   have g4 := hB1.cell 4
   have z0 := hB0.lt
   have z1 := hB1.lt
   simp only [List.getElem?_toArray, List.getElem?_cons_succ, List.getElem?_cons_zero] at q1 g0 g1 g2 g3 g4
   have HFA := Lib.hid (F0.out.trans hf.out)
   have hi0 : (0 : Int) ≤ (i : Int) := Int.natCast_nonneg _
   clear u0 u1
   by_cases hlt : i < all.length
   · obtain ⟨ba, oa, rfl, _, c0, c1, c2, c3, c4⟩ := (HALL.out.kept HFA.out (fun _ _ h => h)).fc hlt
     have hi3 : (i : Int) < (all.length : Int) := by omega
     have hba := cell_lt c0
     have hx := Lib.hid (rfl : fcAt all i = fcAt all i)
     have HV := Lib.hid (findB_at HND.out (s := s) hlt)
     have hsc := (HS.out.kept HFA.out (fun h => h)).bcell hlt
     have hbs := (HS.out.kept HFA.out (fun h => h)).lt
     generalize hxx : fcAt all i = x at *
     have HXX := Lib.hid hxx
     clear hxx hx
     have e1 := eql_plc x.pl ⟨(k : Int), (m : Int)⟩
     have e2 := eql_fc x ⟨⟨(k : Int), (m : Int)⟩, ft, fT, fN⟩
     by_cases hp : x.pl = ⟨(k : Int), (m : Int)⟩
     · rw [show decide (x.pl = ⟨(k : Int), (m : Int)⟩) = true from decide_eq_true hp] at e1
       by_cases hxf : x = ⟨⟨(k : Int), (m : Int)⟩, ft, fT, fN⟩
       · rw [show decide (x = ⟨⟨(k : Int), (m : Int)⟩, ft, fT, fN⟩) = true from decide_eq_true hxf] at e2
         have HR := Lib.hid (show findB all s ⟨⟨(k : Int), (m : Int)⟩, ft, fT, fN⟩ = s i from by rw [← hxf]; exact HV.out)
         obtain ⟨⟨xk, xn⟩, xt, xT, xN⟩ := x
         simp only at c0 c1 c2 c3 c4 e1 e2
         clear hp hxf HV
         go_wp2
         go_quiet (fail)
         go_wp2
         go_quiet (fail)
         go_wp2
         go_ret
         exact HFB.out _ HR.out _ (HFA.out.drewN _)
       · rw [show decide (x = ⟨⟨(k : Int), (m : Int)⟩, ft, fT, fN⟩) = false from decide_eq_false hxf] at e2
         have hno' : Hid (∀ j, st ≤ j → j < i + 1 → fcAt all j ≠ (⟨⟨(k : Int), (m : Int)⟩, ft, fT, fN⟩ : Fc)) := fun j h1 h2 => by
           by_cases e : j = i
           · subst e; rw [HXX.out]; exact hxf
           · exact hno.out j h1 (by omega)
         obtain ⟨⟨xk, xn⟩, xt, xT, xN⟩ := x
         simp only at c0 c1 c2 c3 c4 e1 e2
         clear hp hxf HV
         go_wp2
         go_quiet (fail)
         go_wp2
         go_quiet (fail)
         go_wp2
         go_roundw
         case rel => exact ⟨i + 1, by go_num, by omega, by omega, hno', Lib.hid (hf.out.drewN _)⟩
         case measure => simp [intOf]; omega
     · rw [show decide (x.pl = ⟨(k : Int), (m : Int)⟩) = false from decide_eq_false hp] at e1
       have HR := Lib.hid (HSG.out.none (s := s) (f := ⟨⟨(k : Int), (m : Int)⟩, ft, fT, fN⟩) rfl hi1 hno.out (Or.inr (by rw [HXX.out]; exact hp)))
       obtain ⟨⟨xk, xn⟩, xt, xT, xN⟩ := x
       simp only at c0 c1 c2 c3 c4 e1 e2
       clear hp e2 HV
       go_wp2
       go_quiet (fail)
       go_wp2
       go_ret
       exact HFB.out _ HR.out _ (HFA.out.drewN nq)
   · obtain rfl : i = all.length := by omega
     have HR := Lib.hid (HSG.out.none (s := s) (f := ⟨⟨(k : Int), (m : Int)⟩, ft, fT, fN⟩) rfl hi1 hno.out (Or.inl (Nat.le_refl _)))
     go_wp2
     go_quiet (fail)
     go_wp2
     go_ret
     exact HFB.out _ HR.out _ (HFA.out.drewN nq)
end Go.Proofs.Ytodmkjeankbieab


namespace Go.Proofs.Ytodmkjeankbieab
open Go.RowKit Go.Sort Go.Maps

def upTo (F : Bits) (i : Nat) : Bits := fun x => decide (x < i) && F x
theorem upTo_z (n : Nat) (F : Bits) : mkB n (fun _ => false) = mkB n (upTo F 0) := mkB_congr fun t _ => by simp [upTo]
theorem upTo_set {n i : Nat} {F : Bits} {x : Bool} (h : x = F i) : mkB n (fun s => if s = i then x else upTo F i s) = mkB n (upTo F (i + 1)) := mkB_congr fun t _ => by
 unfold upTo
 by_cases e : t = i
 · subst e; rw [if_pos rfl, h]; simp
 · rw [if_neg e, show decide (t < i) = decide (t < i + 1) by rw [decide_eq_decide]; omega]
theorem upTo_skip {n i : Nat} {F : Bits} (h : F i = false) : mkB n (upTo F i) = mkB n (upTo F (i + 1)) := mkB_congr fun t _ => by
 unfold upTo
 by_cases e : t = i
 · subst e; rw [h]; simp
 · rw [show decide (t < i) = decide (t < i + 1) by rw [decide_eq_decide]; omega]
theorem upTo_all {n : Nat} {F : Bits} : mkB n (upTo F n) = mkB n F := mkB_congr fun t ht => by unfold upTo; simp [ht]

structure Out8 (w wr : World) (cw : Array Value) (bo L : Nat) (F : Bits) (i : Nat) : Prop where
 b0 : Blk wr w.heap.size 121 cw
 out : Blk wr bo 4 (mkB L (upTo F i))
 fr : Fr w wr
 lt : w.heap.size < bo
section
variable {w wr w' : World} {cw : Array Value} {bo L : Nat} {F : Bits} {i : Nat}
theorem Out8.keep (h : Out8 w wr cw bo L F i) (hk : Fr wr w') : Out8 w w' cw bo L F i := ⟨h.b0.kept hk (fun h => h), h.out.kept hk (fun h => h), h.fr.trans hk, h.lt⟩
theorem Out8.set (h : Out8 w wr cw bo L F i) {x : Bool} (hx : x = F i) : Out8 w (wr.setCell ⟨bo, i, none⟩ (.bool x)) cw bo L F (i + 1) := by
 refine ⟨h.b0.far (p := ⟨bo, i, none⟩) (by have := h.lt; simp only; omega) _, ?_, h.fr.setCell (fun e => by have := h.lt; simp only at e; omega) _, h.lt⟩
 have := h.out.bset i x
 rwa [upTo_set hx] at this
theorem Out8.skip (h : Out8 w wr cw bo L F i) (hx : F i = false) : Out8 w wr cw bo L F (i + 1) := ⟨h.b0, by rw [← upTo_skip hx]; exact h.out, h.fr, h.lt⟩
end
def Row8 (w : World) (L : Nat) (F : Bits) (e : Ending) (w' : World) : Prop := ∃ bo, e = .returned (.slice (some ⟨bo, 0, none⟩) L L) ∧ w.heap.size ≤ bo ∧ Blk w' bo 4 (mkB L F) ∧ Fr w w'

theorem neq_plc (a b : PlaceV) (w : World) : (binOp .neq 57 (.agg #[.int .i64 a.k, .int .i64 a.n]) (.agg #[.int .i64 b.k, .int .i64 b.n])).run Try.prog w = .ok (.bool (!decide (a = b))) w := by
 go_simp
 rcases a with ⟨a1, a2⟩
 rcases b with ⟨b1, b2⟩
 simp only [PlaceV.mk.injEq]
 by_cases h1 : a1 = b1 <;> by_cases h2 : a2 = b2 <;> simp [h1, h2]
theorem fact_pl {p : Pg} {ns : List Nat} {sg sl : Nat} (hC : Cnd8 p ns sg sl) {i : Nat} (hi : i < (allFs p ns sg sl).length) : (fcAt (allFs p ns sg sl) i).pl.ok ∧ (fcAt (allFs p ns sg sl) i).n < 4294967296 := by
 have hin := (hC.mem _).1 (fcAt_mem hi)
 refine ⟨?_, hC.num hin⟩
 by_cases h0 : (fcAt (allFs p ns sg sl) i).pl.k = 0
 · rw [(factIn_k0 hin h0).1]; exact ⟨by simp [inI], by simp [inI]⟩
 · rcases hin with ⟨h, _⟩ | ⟨h, _⟩ | ⟨h, _⟩
   · rw [h] at h0; exact absurd rfl h0
   · exact isB_ok h hC.s hC.l
   · exact isB_ok h hC.s hC.l

set_option maxHeartbeats 4000000 in
set_option maxRecDepth 100000 in
theorem begin8_any (R : Nat → Prop) (vw vc : Value) (Aa : Option Addr) (ca : Nat) (vst vn : Value) (p : Pg) (ns : List Nat) (sg sl : Nat) (w : World)
   (h : W8 w R vw vc Aa ca vst vn p ns sg sl) (hC : Cnd8 p ns sg sl) :
   Calls Try.prog 97 #[.agg #[vw, vc, .slice Aa (allFs p ns sg sl).length ca, vst, vn]] w (Row8 w (allFs p ns sg sl).length fun i => decide ((fcAt (allFs p ns sg sl) i).n = 0)) := by
 have hL := hC.len
 have HALL := Lib.hid h.all
 have hmk := run_make_bools (allFs p ns sg sl).length (by omega)
 have HDEF : Hid (∀ (e : Ending) (w' : World), (∃ bo, e = .returned (.slice (some ⟨bo, 0, none⟩) (allFs p ns sg sl).length (allFs p ns sg sl).length) ∧ w.heap.size ≤ bo ∧ Blk w' bo 4 (mkB (allFs p ns sg sl).length fun i => decide ((fcAt (allFs p ns sg sl) i).n = 0)) ∧ Fr w w') → Row8 w (allFs p ns sg sl).length (fun i => decide ((fcAt (allFs p ns sg sl) i).n = 0)) e w') := fun _ _ h => h
 clear h hC
 generalize allFs p ns sg sl = all at *
 have H0 : Hid (Out8 w ((w.alloc (.cells #[vw, vc, .slice Aa all.length ca, vst, vn] 121)).alloc (.cells (mkB all.length fun _ => false) 4)) #[vw, vc, .slice Aa all.length ca, vst, vn] (w.heap.size + 1) all.length (fun i => decide ((fcAt all i).n = 0)) 0) := by
   refine ⟨(Blk.new w _ _).alloc _, ?_, ((Kept.refl _ w).alloc _).alloc _, by omega⟩
   have := Blk.new (w.alloc (.cells #[vw, vc, .slice Aa all.length ca, vst, vn] 121)) 4 (mkB all.length fun _ => false)
   rw [upTo_z all.length (fun i => decide ((fcAt all i).n = 0))] at this ⊢
   simpa using this
 go_enter Try.func97, Try.ntmps97
 go_wp2
 go_loopw [4] (fun i wr => ∃ i' : Nat, i = .int .i64 i' ∧ i' ≤ all.length ∧ Hid (Out8 w wr #[vw, vc, .slice Aa all.length ca, vst, vn] (w.heap.size + 1) all.length (fun i => decide ((fcAt all i).n = 0)) i')) (fun i _ => all.length - (intOf i).toNat)
 case atStart => exact ⟨0, rfl, Nat.zero_le _, H0⟩
 case round =>
   obtain ⟨i, rfl, hi, HO⟩ := hrel
   clear H0
   have q1 := HO.out.b0.cell 2
   have z0 := HO.out.b0.lt
   have hi0 : (0 : Int) ≤ (i : Int) := Int.natCast_nonneg _
   simp only [List.getElem?_toArray, List.getElem?_cons_succ, List.getElem?_cons_zero] at q1
   by_cases hlt : i < all.length
   · obtain ⟨ba, oa, rfl, _, c0, c1, c2, c3, c4⟩ := (HALL.out.kept HO.out.fr (fun _ _ h => h)).fc hlt
     have hi3 : (i : Int) < (all.length : Int) := by omega
     have hba := cell_lt c0
     have hO1 := HO.out.keep ((Kept.refl (fun _ => False) wr).alloc (.cells #[.int .i64 (fcAt all i).pl.k, .int .i64 (fcAt all i).pl.n, .bool (fcAt all i).temp, .int .i64 (fcAt all i).t, .int .u32 ((fcAt all i).n : Int)] 140))
     have HN := Lib.hid (hO1.set (x := ((((fcAt all i).n : Nat) : Int) == 0)) (by show _ = decide ((fcAt all i).n = 0); rw [Bool.eq_iff_iff]; simp))
     have y := hO1.out.frozen i
     have y2 := hO1.out.bcell hlt
     have y3 := hO1.out.lt
     clear hO1
     generalize fcAt all i = x at *
     obtain ⟨⟨xk, xn⟩, xt, xT, xN⟩ := x
     simp only at c0 c1 c2 c3 c4 HN y y2 y3
     go_wp2
     go_roundw
     case rel => exact ⟨i + 1, by go_num, by omega, HN⟩
     case measure => simp [intOf]; omega
   · obtain rfl : i = all.length := by omega
     have HE := Lib.hid (show Blk wr (w.heap.size + 1) 4 (mkB all.length fun i => decide ((fcAt all i).n = 0)) from by rw [← upTo_all]; exact HO.out.out)
     go_wp2
     go_ret
     exact HDEF.out _ _ ⟨w.heap.size + 1, rfl, by omega, HE.out, HO.out.fr⟩

set_option maxHeartbeats 16000000 in
set_option maxRecDepth 100000 in
theorem move8_any (R : Nat → Prop) (vw vc : Value) (Aa : Option Addr) (ca : Nat) (vst vn : Value) (p : Pg) (ns : List Nat) (sg sl : Nat) (bs : Nat) (s : Bits) (m : Mv) (w : World)
   (h : W8 w R vw vc Aa ca vst vn p ns sg sl) (hC : Cnd8 p ns sg sl) (hs : Blk w bs 4 (mkB (allFs p ns sg sl).length s)) (hm : mvB sg sl m = true) (hmn : m.n < 4294967296) :
   Calls Try.prog 121 #[.agg #[vw, vc, .slice Aa (allFs p ns sg sl).length ca, vst, vn], .slice (some ⟨bs, 0, none⟩) (allFs p ns sg sl).length (allFs p ns sg sl).length, m.fval] w (Row8 w (allFs p ns sg sl).length (moveB (allFs p ns sg sl) s m)) := by
 have hL := hC.len
 have HALL := Lib.hid h.all
 have HS := Lib.hid hs
 obtain ⟨m1, m2, m3⟩ := mvB_facts hm
 have HTO := Lib.hid (isB_ok m1 hC.s hC.l)
 have HPL := Lib.hid (fun i (hi : i < (allFs p ns sg sl).length) => fact_pl hC hi)
 have HFI := Lib.hid (fun w2 (hf : Fr w w2) f (hf' : f.pl = ⟨0, 0⟩ ∨ isB sg sl f.pl = true) => find8_any R vw vc Aa ca vst vn p ns sg sl bs s f w2 (h.fr hf) hC (hs.kept hf (fun h => h)) hf')
 have HFR := Lib.hid m3
 have hmk := run_make_bools (allFs p ns sg sl).length (by omega)
 have HMV : Hid (∀ i, moveB (allFs p ns sg sl) s m i = if (fcAt (allFs p ns sg sl) i).pl.k = 0 ∨ ovP (fcAt (allFs p ns sg sl) i).pl m.to = false then s i
     else if (fcAt (allFs p ns sg sl) i).pl ≠ m.to then false
     else if m.c = false then findB (allFs p ns sg sl) s { fcAt (allFs p ns sg sl) i with pl := m.fr }
     else if (fcAt (allFs p ns sg sl) i).temp = true then findB (allFs p ns sg sl) s ⟨⟨0, 0⟩, true, (fcAt (allFs p ns sg sl) i).t, m.n⟩
     else decide ((fcAt (allFs p ns sg sl) i).n = m.n)) := fun _ => rfl
 have HDEF : Hid (∀ (e : Ending) (w' : World), (∃ bo, e = .returned (.slice (some ⟨bo, 0, none⟩) (allFs p ns sg sl).length (allFs p ns sg sl).length) ∧ w.heap.size ≤ bo ∧ Blk w' bo 4 (mkB (allFs p ns sg sl).length (moveB (allFs p ns sg sl) s m)) ∧ Fr w w') → Row8 w (allFs p ns sg sl).length (moveB (allFs p ns sg sl) s m) e w') := fun _ _ h => h
 clear h hC hs hm m1 m2 m3
 generalize allFs p ns sg sl = all at *
 generalize moveB all s m = F at *
 obtain ⟨⟨tk, tn⟩, ⟨fk, fn⟩, mc, mn⟩ := m
 unfold Mv.fval
 simp only at HMV HTO HFR hmn ⊢
 have H0 : Hid (Out8 w (((w.alloc (.cells #[vw, vc, .slice Aa all.length ca, vst, vn] 121)).alloc (.cells #[.int .i64 tk, .int .i64 tn, .int .i64 fk, .int .i64 fn, .bool mc, .int .u32 (mn : Int)] 74)).alloc (.cells (mkB all.length fun _ => false) 4)) #[vw, vc, .slice Aa all.length ca, vst, vn] (w.heap.size + 2) all.length F 0) := by
   refine ⟨((Blk.new w _ _).alloc _).alloc _, ?_, (((Kept.refl _ w).alloc _).alloc _).alloc _, by omega⟩
   have := Blk.new ((w.alloc (.cells #[vw, vc, .slice Aa all.length ca, vst, vn] 121)).alloc (.cells #[.int .i64 tk, .int .i64 tn, .int .i64 fk, .int .i64 fn, .bool mc, .int .u32 (mn : Int)] 74)) 4 (mkB all.length fun _ => false)
   rw [upTo_z all.length F] at this ⊢
   simpa using this
 have B0 : Hid (Blk (((w.alloc (.cells #[vw, vc, .slice Aa all.length ca, vst, vn] 121)).alloc (.cells #[.int .i64 tk, .int .i64 tn, .int .i64 fk, .int .i64 fn, .bool mc, .int .u32 (mn : Int)] 74)).alloc (.cells (mkB all.length fun _ => false) 4)) (w.heap.size + 1) 74 #[.int .i64 tk, .int .i64 tn, .int .i64 fk, .int .i64 fn, .bool mc, .int .u32 (mn : Int)]) := by
   have := (Blk.new (w.alloc (.cells #[vw, vc, .slice Aa all.length ca, vst, vn] 121)) 74 #[.int .i64 tk, .int .i64 tn, .int .i64 fk, .int .i64 fn, .bool mc, .int .u32 (mn : Int)]).alloc (.cells (mkB all.length fun _ => false) 4)
   rw [World.size_alloc] at this
   exact this
 go_enter Try.func121, Try.ntmps121
 go_wp2
 go_loopw [8] (fun i wr => ∃ i' : Nat, i = .int .i64 i' ∧ i' ≤ all.length ∧ Hid (Out8 w wr #[vw, vc, .slice Aa all.length ca, vst, vn] (w.heap.size + 2) all.length F i') ∧ Hid (Blk wr (w.heap.size + 1) 74 #[.int .i64 tk, .int .i64 tn, .int .i64 fk, .int .i64 fn, .bool mc, .int .u32 (mn : Int)])) (fun i _ => all.length - (intOf i).toNat)
 case atStart => exact ⟨0, rfl, Nat.zero_le _, H0, B0⟩
 case round =>
   obtain ⟨i, rfl, hi, HO, HB1⟩ := hrel
   clear H0 B0
   have hi0 : (0 : Int) ≤ (i : Int) := Int.natCast_nonneg _
   by_cases hlt : i < all.length
   · obtain ⟨ba, oa, rfl, _, c0, c1, c2, c3, c4⟩ := (HALL.out.kept HO.out.fr (fun _ _ h => h)).fc hlt
     have hi3 : (i : Int) < (all.length : Int) := by omega
     have hba := cell_lt c0
     have hpl := HPL.out i hlt
     have hmv := HMV.out i
     have hsc := (HS.out.kept HO.out.fr (fun h => h)).bcell hlt
     have hbs := (HS.out.kept HO.out.fr (fun h => h)).lt
     generalize fcAt all i = x at *
     obtain ⟨⟨xk, xn⟩, xt, xT, xN⟩ := x
     simp only at c0 c1 c2 c3 c4 hpl hmv
     have HMI := Lib.hid hmv
     have HPX := Lib.hid hpl.1
     have hxN := hpl.2
     clear hmv hpl
     have fa : Fr wr (wr.alloc (.cells #[.int .i64 xk, .int .i64 xn, .bool xt, .int .i64 xT, .int .u32 (xN : Int)] 140)) := (Kept.refl _ wr).alloc _
     have HOa := Lib.hid (HO.out.keep fa)
     have HBa := Lib.hid (HB1.out.kept fa (fun h => h))
     have HGa := Lib.hid (Blk.new wr 140 #[.int .i64 xk, .int .i64 xn, .bool xt, .int .i64 xT, .int .u32 (xN : Int)])
     have q0 := HOa.out.b0.cell 0
     have q1 := HOa.out.b0.cell 1
     have q2 := HOa.out.b0.cell 2
     have q3 := HOa.out.b0.cell 3
     have q4 := HOa.out.b0.cell 4
     have z0 := HOa.out.b0.lt
     have m0 := HBa.out.cell 0
     have m1 := HBa.out.cell 1
     have m2 := HBa.out.cell 2
     have m3 := HBa.out.cell 3
     have m4 := HBa.out.cell 4
     have m5 := HBa.out.cell 5
     have z1 := HBa.out.lt
     have y := HOa.out.out.frozen i
     have y2 := HOa.out.out.bcell hlt
     have y3 := HOa.out.out.lt
     simp only [List.getElem?_toArray, List.getElem?_cons_succ, List.getElem?_cons_zero] at q0 q1 q2 q3 q4 m0 m1 m2 m3 m4 m5
     by_cases hx0 : xk = 0
     · have hxb : (xk == 0) = true := by simpa using hx0
       have qa := HO.out.b0.cell 2
       have za := HO.out.b0.lt
       simp only [List.getElem?_toArray, List.getElem?_cons_succ, List.getElem?_cons_zero] at qa
       have HN := Lib.hid (HOa.out.set (x := s i) (by rw [HMI.out, if_pos (Or.inl hx0)]))
       have HB := Lib.hid (HBa.out.far (p := ⟨(w.heap.size + 2), i, none⟩) (by simp only; omega) (.bool (s i)))
       clear hx0
       go_wp2
       go_roundw
       case rel => exact ⟨i + 1, by go_num, by omega, HN, HB⟩
       case measure => simp [intOf]; omega
     · have hxb : (xk == 0) = false := by simpa using hx0
       have qa := HO.out.b0.cell 2
       have za := HO.out.b0.lt
       simp only [List.getElem?_toArray, List.getElem?_cons_succ, List.getElem?_cons_zero] at qa
       have HOV := Lib.hid (refOverlap_any ⟨xk, xn⟩ ⟨tk, tn⟩ (wr.alloc (.cells #[.int .i64 xk, .int .i64 xn, .bool xt, .int .i64 xT, .int .u32 (xN : Int)] 140)) HPX.out HTO.out)
       unfold PlaceV.val at HOV
       have HX0 := Lib.hid hx0
       clear hx0
       go_wp2_with fail
       refine HOV.out.mono ?_
       rintro e w1 ⟨rfl, f1⟩
       have HO1 := Lib.hid (HOa.out.keep f1)
       have HB2 := Lib.hid (HBa.out.kept f1 (fun h => h))
       have HG1 := Lib.hid (HGa.out.kept f1 (fun h => h))
       have hsc1 := (f1.cell (by simp; omega)).trans (((Kept.refl (fun _ => False) wr).alloc (.cells #[.int .i64 xk, .int .i64 xn, .bool xt, .int .i64 xT, .int .u32 (xN : Int)] 140)).cell (p := ⟨bs, i, none⟩) hbs (fun h => h) |>.trans hsc)
       have hbs1 := cell_lt hsc1
       clear q0 q1 q2 q3 q4 z0 m0 m1 m2 m3 m4 m5 z1 y y2 y3 c0 c1 c2 c3 c4 hba hsc hbs qa za HOa HBa HGa HOV f1 fa
       have q0 := HO1.out.b0.cell 0
       have q1 := HO1.out.b0.cell 1
       have q2 := HO1.out.b0.cell 2
       have q3 := HO1.out.b0.cell 3
       have q4 := HO1.out.b0.cell 4
       have z0 := HO1.out.b0.lt
       have m0 := HB2.out.cell 0
       have m1 := HB2.out.cell 1
       have m2 := HB2.out.cell 2
       have m3 := HB2.out.cell 3
       have m4 := HB2.out.cell 4
       have m5 := HB2.out.cell 5
       have z1 := HB2.out.lt
       have y := HO1.out.out.frozen i
       have y2 := HO1.out.out.bcell hlt
       have y3 := HO1.out.out.lt
       simp only [List.getElem?_toArray, List.getElem?_cons_succ, List.getElem?_cons_zero] at q0 q1 q2 q3 q4 m0 m1 m2 m3 m4 m5
       have g0 := HG1.out.cell 0
       have g1 := HG1.out.cell 1
       have g2 := HG1.out.cell 2
       have g3 := HG1.out.cell 3
       have g4 := HG1.out.cell 4
       have zg := HG1.out.lt
       simp only [List.getElem?_toArray, List.getElem?_cons_succ, List.getElem?_cons_zero] at g0 g1 g2 g3 g4
       have hne := neq_plc ⟨xk, xn⟩ ⟨tk, tn⟩
       cases hov : ovP (⟨xk, xn⟩ : PlaceV) ⟨tk, tn⟩ with
       | false =>
         have HN := Lib.hid (HO1.out.set (x := s i) (by rw [HMI.out, if_pos (Or.inr hov)]))
         have HB := Lib.hid (HB2.out.far (p := ⟨(w.heap.size + 2), i, none⟩) (by simp only; omega) (.bool (s i)))
         clear hov
         go_wp2
         go_roundw
         case rel => exact ⟨i + 1, by go_num, by omega, HN, HB⟩
         case measure => simp [intOf]; omega
       | true =>
         have HOVT := Lib.hid hov
         clear hov
         by_cases hpe : (⟨xk, xn⟩ : PlaceV) = ⟨tk, tn⟩
         · have e1 : (!decide ((⟨xk, xn⟩ : PlaceV) = ⟨tk, tn⟩)) = false := by simp [hpe]
           rw [e1] at hne
           have HM2 := Lib.hid (show F i = if mc = false then findB all s ⟨⟨fk, fn⟩, xt, xT, xN⟩ else if xt = true then findB all s ⟨⟨0, 0⟩, true, xT, mn⟩ else decide (xN = mn) from by
             rw [HMI.out, if_neg (by rintro (h | h); exact HX0.out h; rw [HOVT.out] at h; cases h), if_neg (by simpa using hpe)])
           clear hpe e1
           cases mc with
           | false =>
             have HFX := Lib.hid (fun w2 hf => HFI.out w2 hf ⟨⟨fk, fn⟩, xt, xT, xN⟩ (Or.inr (HFR.out rfl)))
             unfold Fc.val at HFX
             simp only at HFX
             have hF1 := Lib.hid HO1.out.fr
             go_wp2_with fail
             refine (HFX.out _ ?_).mono ?_
             · exact hF1.out.alloc _
             rintro e w2 ⟨rfl, f2⟩
             have k2 : Fr w1 w2 := ((Kept.refl (fun _ => False) w1).alloc _).trans f2
             have HO2 := Lib.hid (HO1.out.keep k2)
             have HB3 := Lib.hid (HB2.out.kept k2 (fun h => h))
             clear q0 q1 q2 q3 q4 z0 m0 m1 m2 m3 m4 m5 z1 y y2 y3 g0 g1 g2 g3 g4 zg f2 k2 hsc1 hbs1
             have q0 := HO2.out.b0.cell 0
             have q1 := HO2.out.b0.cell 1
             have q2 := HO2.out.b0.cell 2
             have q3 := HO2.out.b0.cell 3
             have q4 := HO2.out.b0.cell 4
             have z0 := HO2.out.b0.lt
             have m0 := HB3.out.cell 0
             have m1 := HB3.out.cell 1
             have m2 := HB3.out.cell 2
             have m3 := HB3.out.cell 3
             have m4 := HB3.out.cell 4
             have m5 := HB3.out.cell 5
             have z1 := HB3.out.lt
             have y := HO2.out.out.frozen i
             have y2 := HO2.out.out.bcell hlt
             have y3 := HO2.out.out.lt
             simp only [List.getElem?_toArray, List.getElem?_cons_succ, List.getElem?_cons_zero] at q0 q1 q2 q3 q4 m0 m1 m2 m3 m4 m5
             have HN := Lib.hid (HO2.out.set (x := findB all s ⟨⟨fk, fn⟩, xt, xT, xN⟩) (by rw [HM2.out]; rfl))
             have HB := Lib.hid (HB3.out.far (p := ⟨(w.heap.size + 2), i, none⟩) (by simp only; omega) (.bool (findB all s ⟨⟨fk, fn⟩, xt, xT, xN⟩)))
             go_wp2
             go_roundw
             case rel => exact ⟨i + 1, by go_num, by omega, HN, HB⟩
             case measure => simp [intOf]; omega
           | true =>
             cases xt with
             | true =>
               have HFX := Lib.hid (fun w2 hf => HFI.out w2 hf ⟨⟨0, 0⟩, true, xT, mn⟩ (Or.inl rfl))
               unfold Fc.val at HFX
               simp only at HFX
               go_wp2_with fail
               refine (HFX.out _ HO1.out.fr).mono ?_
               rintro e w2 ⟨rfl, f2⟩
               have HO2 := Lib.hid (HO1.out.keep f2)
               have HB3 := Lib.hid (HB2.out.kept f2 (fun h => h))
               clear q0 q1 q2 q3 q4 z0 m0 m1 m2 m3 m4 m5 z1 y y2 y3 g0 g1 g2 g3 g4 zg f2 hsc1 hbs1
               have q0 := HO2.out.b0.cell 0
               have q1 := HO2.out.b0.cell 1
               have q2 := HO2.out.b0.cell 2
               have q3 := HO2.out.b0.cell 3
               have q4 := HO2.out.b0.cell 4
               have z0 := HO2.out.b0.lt
               have m0 := HB3.out.cell 0
               have m1 := HB3.out.cell 1
               have m2 := HB3.out.cell 2
               have m3 := HB3.out.cell 3
               have m4 := HB3.out.cell 4
               have m5 := HB3.out.cell 5
               have z1 := HB3.out.lt
               have y := HO2.out.out.frozen i
               have y2 := HO2.out.out.bcell hlt
               have y3 := HO2.out.out.lt
               simp only [List.getElem?_toArray, List.getElem?_cons_succ, List.getElem?_cons_zero] at q0 q1 q2 q3 q4 m0 m1 m2 m3 m4 m5
               have HN := Lib.hid (HO2.out.set (x := findB all s ⟨⟨0, 0⟩, true, xT, mn⟩) (by rw [HM2.out]; rfl))
               have HB := Lib.hid (HB3.out.far (p := ⟨(w.heap.size + 2), i, none⟩) (by simp only; omega) (.bool (findB all s ⟨⟨0, 0⟩, true, xT, mn⟩)))
               go_wp2
               go_roundw
               case rel => exact ⟨i + 1, by go_num, by omega, HN, HB⟩
               case measure => simp [intOf]; omega
             | false =>
               have HN := Lib.hid (HO1.out.set (x := ((xN : Int) == (mn : Int))) (by rw [HM2.out]; simp; rw [Bool.eq_iff_iff]; simp; omega))
               have HB := Lib.hid (HB2.out.far (p := ⟨(w.heap.size + 2), i, none⟩) (by simp only; omega) (.bool (((xN : Int) == (mn : Int)))))
               go_wp2
               go_roundw
               case rel => exact ⟨i + 1, by go_num, by omega, HN, HB⟩
               case measure => simp [intOf]; omega
         · have e1 : (!decide ((⟨xk, xn⟩ : PlaceV) = ⟨tk, tn⟩)) = true := by simp [hpe]
           rw [e1] at hne
           have HN := Lib.hid (HO1.out.skip (by rw [HMI.out, if_neg (by rintro (h | h); exact HX0.out h; rw [HOVT.out] at h; cases h), if_pos (by simpa using hpe)]))
           clear hpe e1
           go_wp2
           go_roundw
           case rel => exact ⟨i + 1, by go_num, by omega, HN, HB2⟩
           case measure => simp [intOf]; omega
   · obtain rfl : i = all.length := by omega
     have HE := Lib.hid (show Blk wr (w.heap.size + 2) 4 (mkB all.length F) from by rw [← upTo_all]; exact HO.out.out)
     go_wp2
     go_ret
     exact HDEF.out _ _ ⟨(w.heap.size + 2), rfl, by omega, HE.out, HO.out.fr⟩
end Go.Proofs.Ytodmkjeankbieab

