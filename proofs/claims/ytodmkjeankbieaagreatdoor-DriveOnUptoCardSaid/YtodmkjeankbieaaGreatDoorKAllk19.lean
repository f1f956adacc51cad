/- Texts of this claim, packed. -/
import Derived.Test.YtodmkjeankbieaaGreatDoorKAllk18
import Derived.Test.YtodmkjeankbieaaGreatDoorKAllk16
import Derived.Test.YtodmkjeankbieaaGreatDoorKAllk4
import Derived.Test.YtodmkjeankbieaaGreatDoorKAllk1
set_option linter.all false
namespace Go.Proofs.YtodmkjeankbieaaGreatDoor
open Go.RowKit Go.Sort Go.Maps

theorem Reads.old2 {w : World} {R : Nat → Prop} {size n : Nat} {A : Option Addr} {xs : List Value} (h : Reads w R size A n xs) (hs : 0 < size) : Reads w (fun b => b < w.heap.size) size A n xs :=
 (Reads.both h hs).more (fun _ hb => hb.2)
theorem RdPg.old {w : World} {R : Nat → Prop} {v : Value} {p : Pg} (h : RdPg w R v p) : RdPg w (fun b => b < w.heap.size) v p := by
 obtain ⟨vw, vc, e, ⟨A, c, e1, hl, hr⟩, ⟨A', c', e2, hl', hr', ho'⟩⟩ := h
 exact ⟨vw, vc, e, ⟨A, c, e1, hl, Reads.old2 hr (by decide)⟩, ⟨A', c', e2, hl', Reads.old2 hr' (by decide), ho'⟩⟩
theorem fcnd_of {p : Pg} {sg sl : Nat} {l : Pd} (hm : mayL p sg l = true) (hsl : l.slots = (sl : Int)) : FCnd p sg sl (fnumsTo p.code p.code.length) := by
 obtain ⟨m1, m2, m3, m4, m5⟩ := mayL_facts hm
 obtain ⟨l1, l2, l3, l4⟩ := mayB_len m1
 obtain ⟨t1, t2, t3⟩ := tg_facts m2
 exact ⟨fnumsTo_all p, l1, l2, l3, l4, by omega, by omega⟩

theorem ofAll_any (R R' : Nat → Prop) (v vl : Value) (p : Pg) (sg sl : Nat) (l : Pd) (w : World) (h : RdPg w R v p) (hL : RdPd w R' vl l) (hm : mayL p sg l = true) (hsl : l.slots = (sl : Int)) :
   Calls Tryz.prog 31 #[v, .agg #[.int .i64 (sg : Int)], .int .i64 (sl : Int)] w fun e w' => ∃ gw, e = .returned (.pointer (some ⟨gw, 0, none⟩)) ∧ Fr w w' ∧
     ∀ w2, Fr w' w2 → Calls Tryz.prog 32 #[.pointer (some ⟨gw, 0, none⟩), vl] w2 (AllPost w2 p sg l) := by
 have hC := fcnd_of hm hsl
 refine (factsOf_any _ v p sg sl w h.old hC.w hC.c hC.s hC.l (fun x hx => hx)).mono ?_
 rintro e w' ⟨gw, A, c, A', c', Ap, cp, An, cn, rfl, hW, hf, _⟩
 refine ⟨gw, rfl, hf, fun w2 hf2 => ?_⟩
 exact all_any gw _ R' p sg sl _ A c A' c' Ap cp An cn vl l w2 (hW.fr hf2) hC ((hL.kept hf (fun _ _ h => h)).kept hf2 (fun _ _ h => h)) hm hsl (fun x hx => Nat.lt_of_lt_of_le hx hf2.size)

def TakesPost (w : World) (p : Pg) (sg : Int) (l : Pd) (e : Ending) (w' : World) : Prop := ∃ b : Bool, e = .returned (.bool b) ∧ (b = true ↔ (mayL p sg l = true ∧ Taken p sg l)) ∧ Fr w w'
set_option maxHeartbeats 4000000 in
set_option maxRecDepth 100000 in
theorem takes_any (R R' : Nat → Prop) (v vl : Value) (p : Pg) (sg : Int) (l : Pd) (w : World) (h : RdPg w R v p) (hL : RdPd w R' vl l) :
   Calls Tryz.prog 33 #[v, tgV sg, vl] w (TakesPost w p sg l) := by
 have H := Lib.hid h
 have HL := Lib.hid hL
 obtain ⟨vw, vc, rfl, ⟨A1, c1, rfl, hl1, hr1⟩, ⟨A, c2, rfl, hl2, hr2, ho2⟩⟩ := h
 obtain ⟨vr, lv, rfl, hsl, ⟨Al, cl, rfl, hlr, hrr, hor⟩, hrows⟩ := hL
 clear hr1 hr2 ho2 hrr hor hrows hsl
 have HMy := Lib.hid (fun w2 (hf : Fr w w2) => placeMay_any R R' _ _ p sg l w2 (H.out.kept hf (fun _ _ h => h)) (HL.out.kept hf (fun _ _ h => h)))
 have HQ := Lib.hid (Q3.start w #[.slice A1 p.wide.length c1, .slice A p.code.length c2] #[.int .i64 sg] #[.int .i64 l.slots, .slice Al lv.length cl])
 unfold tgV at HMy ⊢
 go_enter Tryz.func33, Tryz.ntmps33
 go_wp2_with fail
 refine (HMy.out _ HQ.out.fr).mono ?_
 rintro e w2 ⟨rfl, f2⟩
 have HQ2 := Lib.hid (HQ.out.keep f2)
 clear HQ f2 HMy
 cases hm : mayL p sg l with
 | false =>
   have HM := Lib.hid hm
   clear hm
   go_wp2
   go_ret
   exact ⟨false, rfl, iff_of_false (by decide) (fun h => by rw [HM.out] at h; cases h.1), HQ2.out.fr⟩
 | true =>
   have HM := Lib.hid hm
   obtain ⟨m1, m2, m3, m4, m5⟩ := mayL_facts hm
   obtain ⟨t1, t2, t3⟩ := tg_facts m2
   clear hm m1 m2 m5
   obtain ⟨sgn, rfl⟩ : ∃ n : Nat, sg = (n : Int) := ⟨sg.toNat, by omega⟩
   obtain ⟨sl, hsl⟩ : ∃ n : Nat, l.slots = (n : Int) := ⟨l.slots.toNat, by omega⟩
   have HSL := Lib.hid hsl
   have HOA := Lib.hid (fun w3 (hf : Fr w w3) => ofAll_any R R' _ _ p sgn sl l w3 (H.out.kept hf (fun _ _ h => h)) (HL.out.kept hf (fun _ _ h => h)) HM.out HSL.out)
   rw [hsl] at HQ2 HOA
   clear hsl m3 m4
   have q0 := HQ2.out.b0.cell 0
   have q1 := HQ2.out.b0.cell 1
   have t0 := HQ2.out.b1.cell 0
   have s0 := HQ2.out.b2.cell 0
   have s1 := HQ2.out.b2.cell 1
   have z0 := HQ2.out.b0.lt
   have z1 := HQ2.out.b1.lt
   have z2 := HQ2.out.b2.lt
   simp only [List.getElem?_toArray, List.getElem?_cons_succ, List.getElem?_cons_zero] at q0 q1 t0 s0 s1
   have HDEF : Hid (∀ (e : Ending) (w' : World), (∃ b : Bool, e = .returned (.bool b) ∧ (b = true ↔ (mayL p sgn l = true ∧ Taken p sgn l)) ∧ Fr w w') → TakesPost w p sgn l e w') := fun _ _ h => h
   go_wp2
   go_region_held3 (fun w' => w'.cell? ⟨w.heap.size, 0, none⟩ = some (.slice A1 p.wide.length c1) ∧ w'.cell? ⟨w.heap.size, 1, none⟩ = some (.slice A p.code.length c2) ∧ w'.cell? ⟨w.heap.size + 1, 0, none⟩ = some (.int .i64 (sgn : Int)) ∧ w'.cell? ⟨w.heap.size + 2, 0, none⟩ = some (.int .i64 (sl : Int)) ∧ w'.cell? ⟨w.heap.size + 2, 1, none⟩ = some (.slice Al lv.length cl))
     (first
       | go_keep
       | exact sa
       | exact sb)
     (first
       | (go_at_call 31; refine (HOA.out _ (HQ2.out.fr.trans (Kept.refl (fun _ => False) w2).drew)).mono ?_; rintro e wa ⟨gw, rfl, fa0, hall⟩; have fa := (Kept.refl (fun _ => False) w2).drew.trans fa0; have sa := (show wa.cell? ⟨w.heap.size, 0, none⟩ = some (.slice A1 p.wide.length c1) ∧ wa.cell? ⟨w.heap.size, 1, none⟩ = some (.slice A p.code.length c2) ∧ wa.cell? ⟨w.heap.size + 1, 0, none⟩ = some (.int .i64 (sgn : Int)) ∧ wa.cell? ⟨w.heap.size + 2, 0, none⟩ = some (.int .i64 (sl : Int)) ∧ wa.cell? ⟨w.heap.size + 2, 1, none⟩ = some (.slice Al lv.length cl) from ⟨(fa.cell z0 (fun h => h)).trans q0, (fa.cell z0 (fun h => h)).trans q1, (fa.cell z1 (fun h => h)).trans t0, (fa.cell z2 (fun h => h)).trans s0, (fa.cell z2 (fun h => h)).trans s1⟩); have hall2 := hall _ (Kept.refl (fun _ => False) wa))
       | (go_at_call 32; refine hall2.mono ?_; rintro e wb ⟨fb0, g0, vs, ok, rfl, _, _, _, hok⟩; have fb := fa.trans fb0; have sb := (show wb.cell? ⟨w.heap.size, 0, none⟩ = some (.slice A1 p.wide.length c1) ∧ wb.cell? ⟨w.heap.size, 1, none⟩ = some (.slice A p.code.length c2) ∧ wb.cell? ⟨w.heap.size + 1, 0, none⟩ = some (.int .i64 (sgn : Int)) ∧ wb.cell? ⟨w.heap.size + 2, 0, none⟩ = some (.int .i64 (sl : Int)) ∧ wb.cell? ⟨w.heap.size + 2, 1, none⟩ = some (.slice Al lv.length cl) from ⟨(fb.cell z0 (fun h => h)).trans q0, (fb.cell z0 (fun h => h)).trans q1, (fb.cell z1 (fun h => h)).trans t0, (fb.cell z2 (fun h => h)).trans s0, (fb.cell z2 (fun h => h)).trans s1⟩)))
   rename_i hHeld
   clear hHeld
   have HF := Lib.hid (HQ2.out.fr.trans fb)
   have HOK : Hid (ok = true ↔ (mayL p sgn l = true ∧ Taken p sgn l)) := ⟨fun h => ⟨HM.out, hok.1 h⟩, fun h => hok.2 h.2⟩
   clear sa sb fa fb fa0 fb0 hok hall hall2 q0 q1 t0 s0 s1 z0 z1 z2
   go_wp2
   go_ret
   exact HDEF.out _ _ ⟨ok, rfl, HOK.out, HF.out⟩
end Go.Proofs.YtodmkjeankbieaaGreatDoor


namespace Go.Proofs.YtodmkjeankbieaaGreatDoor
open Go.RowKit Go.Sort Go.Maps

noncomputable def regsB (p : Pg) (sg : Int) : List PlaceV := regsL p.wide.length (colF p (sg - 4).toNat)
noncomputable def firstL (p : Pg) (sg : Int) : Pd := placedF p sg (regsB p sg) noKn
open Classical in
noncomputable def knB (p : Pg) (sg : Int) : Nat → Int → Option Nat := fun k t => if Come p.code k then knS (Kn p sg (firstL p sg) k) t else none
noncomputable def againL (p : Pg) (sg : Int) : Pd := placedF p sg (regsB p sg) (knB p sg)
open Classical in
noncomputable def buildF (p : Pg) (sg : Int) : Pd := if mayL p sg (againL p sg) = true ∧ Taken p sg (againL p sg) then againL p sg else firstL p sg
theorem regsB_ok {p : Pg} {sg : Int} (ht : tgB sg = true) : ColOk p (sg - 4) (regsB p sg) := by
 obtain ⟨t1, t2, t3⟩ := tg_facts ht
 have h := (colF_ok p (sg - 4).toNat).ok
 rw [Int.toNat_of_nonneg (by omega)] at h
 exact h
theorem firstL_ok {p : Pg} {sg : Int} (hm : mayB p = true) (ht : tgB sg = true) : mayL p sg (firstL p sg) = true ∧ Taken p sg (firstL p sg) := by
 obtain ⟨t1, t2, t3⟩ := tg_facts ht
 exact ⟨build_may hm ht (regsB_ok ht), build_taken hm t1 t3 (regsB_ok ht)⟩
theorem buildF_ok {p : Pg} {sg : Int} (hm : mayB p = true) (ht : tgB sg = true) : mayL p sg (buildF p sg) = true ∧ Taken p sg (buildF p sg) := by
 unfold buildF
 split
 · assumption
 · exact firstL_ok hm ht
theorem buildF_again {p : Pg} {sg : Int} (h : mayL p sg (againL p sg) = true ∧ Taken p sg (againL p sg)) : buildF p sg = againL p sg := if_pos h
theorem buildF_first {p : Pg} {sg : Int} (h : ¬ (mayL p sg (againL p sg) = true ∧ Taken p sg (againL p sg))) : buildF p sg = firstL p sg := if_neg h
theorem colF_rng {p : Pg} {sg : Nat} (hs : sg ≤ 16) : ∀ t, t < p.wide.length → (colF p sg t).ok := by
 intro t ht
 rcases (colF_ok p sg).reg t ht with h | h
 · rw [h]; exact none_ok
 · exact isB_ok (sg := sg) (sl := 0) h.2 hs (by omega)

def BuildPost (w : World) (p : Pg) (sg : Int) (e : Ending) (w' : World) : Prop :=
 Fr w w' ∧ (((mayB p && tgB sg) = false ∧ e = .returned (.tuple #[.agg #[.int .i64 0, .slice none 0 0], .int .i64 2])) ∨
   (mayB p = true ∧ tgB sg = true ∧ ∃ A c, e = .returned (.tuple #[.agg #[.int .i64 (p.wide.length : Int), .slice A p.code.length c], .int .i64 0]) ∧
     RdPd w' (fun b => w.heap.size ≤ b ∧ b < w'.heap.size) (.agg #[.int .i64 (p.wide.length : Int), .slice A p.code.length c]) (buildF p sg)))

theorem rowsPost_at {w : World} {p : Pg} {sg : Int} {regs : List PlaceV} {kn : Nat → Int → Option Nat} {e : Ending} {w' : World} (h : RowsPost w (placedF p sg regs kn) e w') :
   ∃ A c, e = .returned (.agg #[.int .i64 (p.wide.length : Int), .slice A p.code.length c]) ∧ RdPd w' (fun b => w.heap.size ≤ b ∧ b < w'.heap.size) (.agg #[.int .i64 (p.wide.length : Int), .slice A p.code.length c]) (placedF p sg regs kn) ∧ Fr w w' := by
 obtain ⟨v, rfl, hr, hf⟩ := h
 obtain ⟨vr, l, rfl, hi, ⟨A, c, rfl, h1⟩, hrows⟩ := id hr
 have e : l.length = p.code.length := by
   have := congrArg List.length hrows
   simpa [placedF, rowsF] using this.symm
 rw [e] at hr ⊢
 exact ⟨A, c, rfl, hr, hf⟩

theorem knR_all {w w' : World} {p : Pg} {sg : Nat} {g0 : Nat} {vs : Nat → Value} (hm : mayL p (sg : Int) (firstL p (sg : Int)) = true) (hb : Blk w' g0 133 (mkS p.code.length vs))
   (h : ∀ k, k < p.code.length → (Come p.code k → AtV w' (vs k) (some (Kn p (sg : Int) (firstL p (sg : Int)) k))) ∧ (¬ Come p.code k → vs k = .map none)) :
   KnR w' p sg (.slice (some ⟨g0, 0, none⟩) p.code.length p.code.length) (knB p (sg : Int)) := by
 refine Or.inr ⟨g0, vs, rfl, hb, fun k hk => ?_⟩
 by_cases hc : Come p.code k
 · obtain ⟨b, e, hs⟩ := (h k hk).1 hc
   refine Or.inr ⟨b, _, e, hs, Kn_in hm k hc, Kn_uni hm k hc, fun t => ?_⟩
   unfold knB
   rw [if_pos hc]
 · refine Or.inl ⟨(h k hk).2 hc, fun t => ?_⟩
   unfold knB
   rw [if_neg hc]
theorem rows_any (gb g0 : Nat) (R : Nat → Prop) (p : Pg) (A : Option Addr) (c : Nat) (A' : Option Addr) (c' sg : Nat) (o : Nat → PlaceV) (kv : Value) (kn : Nat → Int → Option Nat) (w : World) (h : Bd w gb g0 R p A c A' c' sg o) (hR : ∀ x, R x → x < w.heap.size) (hm : mayB p = true) (hs : 4 ≤ sg) (hs1 : sg ≤ 16) (ho : ∀ t, t < p.wide.length → (o t).ok) (hn : NumOk p) (hK : KnR w p sg kv kn) :
   Calls Tryz.prog 30 #[.pointer (some ⟨gb, 0, none⟩), kv] w (RowsPost w (placedF p (sg : Int) (regsL p.wide.length o) kn)) := by
 rcases hK with ⟨rfl, hK⟩ | ⟨gk, vs, rfl, hB, hK⟩
 · exact rows_nil gb g0 R p A c A' c' sg o kn w h hR hm hs hs1 ho hn hK
 · exact rows_set gb g0 R p A c A' c' sg o gk vs kn w h hR hm hs hs1 ho hn hB hK

set_option maxHeartbeats 16000000 in
set_option maxRecDepth 100000 in
theorem build_any (R : Nat → Prop) (v : Value) (p : Pg) (sg : Int) (w : World) (h : RdPg w R v p) : Calls Tryz.prog 14 #[v, tgV sg] w (BuildPost w p sg) := by
 have H := Lib.hid h.old
 have HNU := Lib.hid (show NumOk p from by
   obtain ⟨_, _, e, _, ⟨_, _, e2, _, _, ho⟩⟩ := h
   exact fun i hi => (ho i hi).2.2.2.2.2)
 obtain ⟨vw, vc, rfl, ⟨A1, c1, rfl, hl1, hr1⟩, ⟨A, c2, rfl, hl2, hr2, ho2⟩⟩ := h
 clear hr1 hr2 ho2
 have HMy := Lib.hid (fun w2 (hf : Fr w w2) => May_any _ _ p w2 (H.out.kept hf (fun _ _ h => h)))
 have HTA := Lib.hid (fun w2 => Target_any sg w2)
 have HQ := Lib.hid (Q3.start w #[.slice A1 p.wide.length c1, .slice A p.code.length c2] #[.int .i64 sg] #[.int .i64 0, .slice none 0 0])
 have HDEF : Hid (∀ (e : Ending) (w' : World), (Fr w w' ∧ (((mayB p && tgB sg) = false ∧ e = .returned (.tuple #[.agg #[.int .i64 0, .slice none 0 0], .int .i64 2])) ∨
   (mayB p = true ∧ tgB sg = true ∧ ∃ A c, e = .returned (.tuple #[.agg #[.int .i64 (p.wide.length : Int), .slice A p.code.length c], .int .i64 0]) ∧
     RdPd w' (fun b => w.heap.size ≤ b ∧ b < w'.heap.size) (.agg #[.int .i64 (p.wide.length : Int), .slice A p.code.length c]) (buildF p sg)))) → BuildPost w p sg e w') := fun _ _ h => h
 unfold tgV at HTA ⊢
 go_enter Tryz.func14, Tryz.ntmps14
 go_wp2_with fail
 refine (HMy.out _ HQ.out.fr).mono ?_
 rintro e w2 ⟨rfl, f2⟩
 have HQ2 := Lib.hid (HQ.out.keep f2)
 clear HQ f2 HMy
 have t0 := HQ2.out.b1.cell 0
 have z1 := HQ2.out.b1.lt
 simp only [List.getElem?_toArray, List.getElem?_cons_succ, List.getElem?_cons_zero] at t0
 cases hm : mayB p with
 | false =>
   have HNO : Hid ((mayB p && tgB sg) = false) := by show _ = _; rw [hm]; rfl
   have HQE := HQ2
   clear hm
   have x0 := HQE.out.b2.cell 0
   have x1 := HQE.out.b2.cell 1
   have y0 := HQE.out.b2.frozen 0
   have y1 := HQE.out.b2.frozen 1
   have zx := HQE.out.b2.lt
   simp only [List.getElem?_toArray, List.getElem?_cons_succ, List.getElem?_cons_zero] at x0 x1
   go_wp2
   refine bodyPost_ret (v := .tuple #[.agg #[.int .i64 0, .slice none 0 0], .int .i64 2]) ?_ rfl ?_
   · simp [results, Tryz.results14, go_sem, x0, x1]
   · exact HDEF.out _ _ ⟨(HQE.out.fr.setCell (fun e => by simp only at e; omega) _).setCell (fun e => by simp only at e; omega) _, Or.inl ⟨HNO.out, rfl⟩⟩
 | true =>
   have HMB := Lib.hid hm
   clear hm
   go_wp2_with fail
   refine (HTA.out _).mono ?_
   rintro e w3 ⟨rfl, f3⟩
   have HQ3 := Lib.hid (HQ2.out.keep f3)
   clear HQ2 f3 HTA t0 z1
   have t0 := HQ3.out.b1.cell 0
   have z1 := HQ3.out.b1.lt
   have q0 := HQ3.out.b0.cell 0
   have q1 := HQ3.out.b0.cell 1
   have z0 := HQ3.out.b0.lt
   simp only [List.getElem?_toArray, List.getElem?_cons_succ, List.getElem?_cons_zero] at t0 q0 q1
   cases ht : tgB sg with
   | false =>
     have HNO : Hid ((mayB p && tgB sg) = false) := by show _ = _; rw [ht]; simp
     have HQE := HQ3
     clear ht
     have x0 := HQE.out.b2.cell 0
     have x1 := HQE.out.b2.cell 1
     have y0 := HQE.out.b2.frozen 0
     have y1 := HQE.out.b2.frozen 1
     have zx := HQE.out.b2.lt
     simp only [List.getElem?_toArray, List.getElem?_cons_succ, List.getElem?_cons_zero] at x0 x1
     go_wp2
     refine bodyPost_ret (v := .tuple #[.agg #[.int .i64 0, .slice none 0 0], .int .i64 2]) ?_ rfl ?_
     · simp [results, Tryz.results14, go_sem, x0, x1]
     · exact HDEF.out _ _ ⟨(HQE.out.fr.setCell (fun e => by simp only at e; omega) _).setCell (fun e => by simp only at e; omega) _, Or.inl ⟨HNO.out, rfl⟩⟩
   | true =>
     have HTG := Lib.hid ht
     obtain ⟨m1, m2, m3⟩ := tg_facts ht
     obtain ⟨sg, rfl⟩ : ∃ n : Nat, sg = (n : Int) := ⟨sg.toNat, by omega⟩
     clear ht
     obtain ⟨lw, lw2, lc, lc2⟩ := mayB_len HMB.out
     have hwr : IntKind.i64.wrap ((sg : Int) - 4) = (sg : Int) - 4 := by simp [IntKind.wrap, IntKind.bits, IntKind.signed]; omega
     have HMK := Lib.hid (fun w9 (hf : Fr w w9) => make_any _ _ p ((sg : Int) - 4) w9 (H.out.kept hf (fun _ _ h => h)))
     have hzw := HQ3.out.fr.size
     have hz3 : w.heap.size + 3 ≤ w3.heap.size := by have := HQ3.out.b2.lt; omega
     go_wp2_with fail
     refine (HMK.out _ (HQ3.out.fr.alloc _)).mono ?_
     rintro e w4 ⟨f4, hc⟩
     rcases hc with ⟨hc, _⟩ | ⟨_, hc, _⟩ | ⟨_, _, _, _, g0, rfl, hg0, hob⟩
     · exfalso; rw [HMB.out] at hc; cases hc
     · exfalso; omega
     simp only [World.size_alloc] at hg0
     have hbb := (Blk.new w3 84 #[.slice A1 p.wide.length c1, .slice A p.code.length c2, .int .i64 (sg : Int), .slice none 0 0]).kept f4 (fun h => h)
     have HQ4 := Lib.hid ((HQ3.out.keep ((Kept.refl (fun _ => False) w3).alloc (.cells #[.slice A1 p.wide.length c1, .slice A p.code.length c2, .int .i64 (sg : Int), .slice none 0 0] 84))).keep f4)
     have b3 := hbb.cell 3
     have y3 := hbb.frozen 3
     have zb := hbb.lt
     simp only [List.getElem?_toArray, List.getElem?_cons_succ, List.getElem?_cons_zero] at b3
     have hk4 : Kept (fun b => b = w3.heap.size) w4 (w4.setCell ⟨w3.heap.size, 3, none⟩ (.slice (some ⟨g0, 0, none⟩) p.wide.length p.wide.length)) := (Kept.refl (fun b => b = w3.heap.size) w4).setCell (p := ⟨w3.heap.size, 3, none⟩) (fun _ => rfl) _
     have hb4 : Blk (w4.setCell ⟨w3.heap.size, 3, none⟩ (.slice (some ⟨g0, 0, none⟩) p.wide.length p.wide.length)) w3.heap.size 84 #[.slice A1 p.wide.length c1, .slice A p.code.length c2, .int .i64 (sg : Int), .slice (some ⟨g0, 0, none⟩) p.wide.length p.wide.length] := by
       have := hbb.set_ 3 (.slice (some ⟨g0, 0, none⟩) p.wide.length p.wide.length)
       simpa using this
     have HBD := Lib.hid (show Bd (w4.setCell ⟨w3.heap.size, 3, none⟩ (.slice (some ⟨g0, 0, none⟩) p.wide.length p.wide.length)) w3.heap.size g0 (fun b => b < w.heap.size) p A1 c1 A c2 sg (colF p (sg - 4)) from
       ⟨⟨hb4⟩, by
         have e : ((sg : Int) - 4).toNat = sg - 4 := by omega
         rw [e] at hob
         exact hob.kept hk4 (by omega), (H.out.kept HQ4.out.fr (fun _ _ h => h)).kept hk4 (fun b hb e => by omega)⟩)
     have HQ5 := Lib.hid (show Q3 w (w4.setCell ⟨w3.heap.size, 3, none⟩ (.slice (some ⟨g0, 0, none⟩) p.wide.length p.wide.length)) #[.slice A1 p.wide.length c1, .slice A p.code.length c2] #[.int .i64 (sg : Int)] #[.int .i64 0, .slice none 0 0] from ⟨HQ4.out.b0.kept hk4 (by omega), HQ4.out.b1.kept hk4 (by omega), HQ4.out.b2.kept hk4 (by omega), HQ4.out.fr.then hk4 (fun i hi e => by omega)⟩)
     have HCR := Lib.hid (colF_rng (p := p) (sg := sg - 4) (by omega))
     have hzz := hk4.size
     obtain ⟨w5, hw5⟩ : ∃ w5 : World, w5 = (w4.setCell ⟨w3.heap.size, 3, none⟩ (.slice (some ⟨g0, 0, none⟩) p.wide.length p.wide.length)) := ⟨_, rfl⟩
     rw [← hw5] at HBD HQ5 hzz
     have HW5 := Lib.hid hw5
     clear hw5 hk4 hb4 hbb hob HQ4 HQ3 HMK f4 t0 z1 q0 q1 z0
     have HRO := Lib.hid (fun w9 kv kn (hf : Fr w5 w9) (hK : KnR w9 p sg kv kn) => rows_any w3.heap.size g0 _ p A1 c1 A c2 sg (colF p (sg - 4)) kv kn w9 (HBD.out.fr hf) (fun x hx => by have := hf.size; have := HQ5.out.fr.size; omega) HMB.out (by omega) (by omega) HCR.out HNU.out hK)
     have HRB : Hid (regsL p.wide.length (colF p (sg - 4)) = regsB p (sg : Int)) := by
       show _ = _
       unfold regsB
       rw [show ((sg : Int) - 4).toNat = sg - 4 by omega]
     rw [HRB.out] at HRO
     go_wp2_with fail
     rw [← HW5.out]
     refine (HRO.out w5 _ noKn (Kept.refl _ w5) (Or.inl ⟨rfl, fun _ _ => rfl⟩)).mono ?_
     intro e w6 hr6
     obtain ⟨A5, c5, rfl, hrd5, f6⟩ := rowsPost_at hr6
     clear hr6
     have HL1 := Lib.hid (show RdPd w6 (fun b => w.heap.size + 3 ≤ b ∧ b < w6.heap.size) (.agg #[.int .i64 (p.wide.length : Int), .slice A5 p.code.length c5]) (firstL p (sg : Int)) from hrd5.more (fun b hb => ⟨by omega, hb.2⟩))
     have HQ6 := Lib.hid (HQ5.out.keep f6)
     obtain ⟨hmL, htL⟩ := firstL_ok HMB.out HTG.out
     have HML := Lib.hid hmL
     have HTL := Lib.hid htL
     have hsl : (firstL p (sg : Int)).slots = ((p.wide.length : Nat) : Int) := rfl
     obtain ⟨lb, hlb⟩ : ∃ lb : Nat, lb = w6.heap.size := ⟨_, rfl⟩
     have HLB0 := Lib.hid (show Blk (w6.alloc (.cells #[.int .i64 (p.wide.length : Int), .slice A5 p.code.length c5] 55)) lb 55 #[.int .i64 (p.wide.length : Int), .slice A5 p.code.length c5] from by rw [hlb]; exact Blk.new w6 _ _)
     obtain ⟨w6a, hw6a⟩ : ∃ w6a : World, w6a = w6.alloc (.cells #[.int .i64 (p.wide.length : Int), .slice A5 p.code.length c5] 55) := ⟨_, rfl⟩
     have f6a : Fr w6 w6a := by rw [hw6a]; exact (Kept.refl _ w6).alloc _
     rw [← hw6a] at HLB0
     have HW6 := Lib.hid hw6a
     have HLBE := Lib.hid hlb
     clear hlb
     have HQA := Lib.hid (HQ6.out.keep f6a)
     have HF5 := Lib.hid (f6.trans f6a)
     have hz6 : w.heap.size + 3 ≤ w6a.heap.size := by have := HF5.out.size; omega
     have HLR := Lib.hid ((HL1.out.kept f6a (fun _ _ h => h)).more (fun b hb => (⟨hb.1, by have := f6a.size; omega⟩ : w.heap.size + 3 ≤ b ∧ b < w6a.heap.size)))
     have HOA := Lib.hid (fun w9 (hf : Fr w6a w9) => ofAll_any _ _ _ _ p sg p.wide.length (firstL p (sg : Int)) w9 (H.out.kept (HQA.out.fr.trans hf) (fun _ _ h => h)) (HLR.out.kept hf (fun _ _ h => h)) HML.out hsl)
     have q0 := HQA.out.b0.cell 0
     have q1 := HQA.out.b0.cell 1
     have t0 := HQA.out.b1.cell 0
     have z0 := HQA.out.b0.lt
     have z1 := HQA.out.b1.lt
     have s0 := HLB0.out.cell 0
     have s1 := HLB0.out.cell 1
     have zl := HLB0.out.lt
     simp only [List.getElem?_toArray, List.getElem?_cons_succ, List.getElem?_cons_zero] at q0 q1 t0 s0 s1
     clear hw6a f6 f6a HQ5 HQ6 hrd5 hmL htL hsl
     go_wp2
     rw [← HW6.out, ← HLBE.out]
     go_region_held3 (fun w' => w'.cell? ⟨w.heap.size, 0, none⟩ = some (.slice A1 p.wide.length c1) ∧ w'.cell? ⟨w.heap.size, 1, none⟩ = some (.slice A p.code.length c2) ∧ w'.cell? ⟨w.heap.size + 1, 0, none⟩ = some (.int .i64 (sg : Int)) ∧ w'.cell? ⟨lb, 0, none⟩ = some (.int .i64 (p.wide.length : Int)) ∧ w'.cell? ⟨lb, 1, none⟩ = some (.slice A5 p.code.length c5))
       (first
         | go_keep
         | exact sa
         | exact sb)
       (first
         | (go_at_call 31; refine (HOA.out _ ((Kept.refl (fun _ => False) w6a).drew)).mono ?_; rintro e wa ⟨gw, rfl, fa0, hall⟩; have fa := (Kept.refl (fun _ => False) w6a).drew.trans fa0; have sa := (show wa.cell? ⟨w.heap.size, 0, none⟩ = some (.slice A1 p.wide.length c1) ∧ wa.cell? ⟨w.heap.size, 1, none⟩ = some (.slice A p.code.length c2) ∧ wa.cell? ⟨w.heap.size + 1, 0, none⟩ = some (.int .i64 (sg : Int)) ∧ wa.cell? ⟨lb, 0, none⟩ = some (.int .i64 (p.wide.length : Int)) ∧ wa.cell? ⟨lb, 1, none⟩ = some (.slice A5 p.code.length c5) from ⟨(fa.cell z0 (fun h => h)).trans q0, (fa.cell z0 (fun h => h)).trans q1, (fa.cell z1 (fun h => h)).trans t0, (fa.cell zl (fun h => h)).trans s0, (fa.cell zl (fun h => h)).trans s1⟩); have hall2 := hall _ (Kept.refl (fun _ => False) wa))
         | (go_at_call 32; refine hall2.mono ?_; rintro e wb ⟨fb0, gk, vs, ok, rfl, hgk, hkb, hks, hok⟩; have fb := fa.trans fb0; have sb := (show wb.cell? ⟨w.heap.size, 0, none⟩ = some (.slice A1 p.wide.length c1) ∧ wb.cell? ⟨w.heap.size, 1, none⟩ = some (.slice A p.code.length c2) ∧ wb.cell? ⟨w.heap.size + 1, 0, none⟩ = some (.int .i64 (sg : Int)) ∧ wb.cell? ⟨lb, 0, none⟩ = some (.int .i64 (p.wide.length : Int)) ∧ wb.cell? ⟨lb, 1, none⟩ = some (.slice A5 p.code.length c5) from ⟨(fb.cell z0 (fun h => h)).trans q0, (fb.cell z0 (fun h => h)).trans q1, (fb.cell z1 (fun h => h)).trans t0, (fb.cell zl (fun h => h)).trans s0, (fb.cell zl (fun h => h)).trans s1⟩)))
     rename_i hHeld
     clear hHeld
     have HKR := Lib.hid (knR_all (w := w) HML.out hkb hks)
     have HQB := Lib.hid (HQA.out.keep fb)
     have HFB := Lib.hid (HF5.out.trans fb)
     have HLB1 := Lib.hid (HLB0.out.kept fb (fun h => h))
     have HLR1 := Lib.hid ((HLR.out.kept fb (fun _ _ h => h)).more (fun b hb => (⟨hb.1, by have := fb.size; omega⟩ : w.heap.size + 3 ≤ b ∧ b < wb.heap.size)))
     clear sa sb fa fb fa0 fb0 hok hall hall2 q0 q1 t0 s0 s1 z0 z1 zl hkb hks hgk HOA HQA HF5 HLR HLB0
     go_wp2_with fail
     refine (HRO.out wb _ _ HFB.out HKR.out).mono ?_
     intro e w7 hr7
     obtain ⟨A7, c7, rfl, hrd7, f7⟩ := rowsPost_at hr7
     clear hr7
     have hzb := HFB.out.size
     have HL7 := Lib.hid (show RdPd w7 (fun b => w.heap.size + 3 ≤ b ∧ b < w7.heap.size) (.agg #[.int .i64 (p.wide.length : Int), .slice A7 p.code.length c7]) (againL p (sg : Int)) from hrd7.more (fun b hb => ⟨by omega, hb.2⟩))
     have HQ7 := Lib.hid (HQB.out.keep f7)
     have HTK := Lib.hid (fun w9 (hf : Fr w7 w9) => takes_any _ _ _ _ p (sg : Int) (againL p (sg : Int)) w9 (H.out.kept (HQ7.out.fr.trans hf) (fun _ _ h => h)) (HL7.out.kept hf (fun _ _ h => h)))
     unfold tgV at HTK
     have HLB7 := Lib.hid (HLB1.out.kept f7 (fun h => h))
     have HLR7 := Lib.hid ((HLR1.out.kept f7 (fun _ _ h => h)).more (fun b hb => (⟨hb.1, by have := f7.size; omega⟩ : w.heap.size + 3 ≤ b ∧ b < w7.heap.size)))
     have q0 := HQ7.out.b0.cell 0
     have q1 := HQ7.out.b0.cell 1
     have t0 := HQ7.out.b1.cell 0
     have z0 := HQ7.out.b0.lt
     have z1 := HQ7.out.b1.lt
     simp only [List.getElem?_toArray, List.getElem?_cons_succ, List.getElem?_cons_zero] at q0 q1 t0
     clear f7 hrd7 HQB HFB HLB1 HLR1 HKR HRO
     go_wp2_with fail
     refine (HTK.out _ ((Kept.refl (fun _ => False) w7).alloc _)).mono ?_
     rintro e w8 ⟨b, rfl, hb, f8⟩
     have fa8 : Fr w7 w8 := ((Kept.refl (fun _ => False) w7).alloc _).trans f8
     have hab := (Blk.new w7 55 #[.int .i64 (p.wide.length : Int), .slice A7 p.code.length c7]).kept f8 (fun h => h)
     have HQ8 := Lib.hid (HQ7.out.keep fa8)
     have HLB8 := Lib.hid (HLB7.out.kept fa8 (fun h => h))
     have HLR8 := Lib.hid ((HLR7.out.kept fa8 (fun _ _ h => h)).more (fun b hb => (⟨hb.1, by have := fa8.size; omega⟩ : w.heap.size + 3 ≤ b ∧ b < w8.heap.size)))
     have HL8 := Lib.hid ((HL7.out.kept fa8 (fun _ _ h => h)).more (fun b hb => (⟨hb.1, by have := fa8.size; omega⟩ : w.heap.size + 3 ≤ b ∧ b < w8.heap.size)))
     have HB := Lib.hid hb
     clear hb q0 q1 t0 z0 z1 HTK
     have a0 := hab.cell 0
     have a1 := hab.cell 1
     have za := hab.lt
     have s0 := HLB8.out.cell 0
     have s1 := HLB8.out.cell 1
     have zl := HLB8.out.lt
     have hzl := HQ8.out.fr.size
     simp only [List.getElem?_toArray, List.getElem?_cons_succ, List.getElem?_cons_zero] at a0 a1 s0 s1
     cases b with
     | true =>
       have HEQ := Lib.hid (buildF_again (HB.out.1 rfl))
       clear hab
       have x0 := HQ8.out.b2.cell 0
       have x1 := HQ8.out.b2.cell 1
       have y0 := HQ8.out.b2.frozen 0
       have y1 := HQ8.out.b2.frozen 1
       have zx := HQ8.out.b2.lt
       simp only [List.getElem?_toArray, List.getElem?_cons_succ, List.getElem?_cons_zero] at x0 x1
       go_wp2
       refine bodyPost_ret (v := .tuple #[.agg #[.int .i64 (p.wide.length : Int), .slice A7 p.code.length c7], .int .i64 0]) ?_ rfl ?_
       · simp [results, Tryz.results14, go_sem, x0, x1]
       · have hkS := ((Kept.refl (fun b => b = w.heap.size + 2) w8).setCell (p := ⟨w.heap.size + 2, 0, none⟩) (fun _ => rfl) (.int .i64 (p.wide.length : Int))).setCell (p := ⟨w.heap.size + 2, 1, none⟩) (fun _ => rfl) (.slice A7 p.code.length c7)
         refine HDEF.out _ _ ⟨(HQ8.out.fr.setCell (fun e => by simp only at e; omega) _).setCell (fun e => by simp only at e; omega) _, Or.inr ⟨HMB.out, HTG.out, A7, c7, rfl, ?_⟩⟩
         rw [HEQ.out]
         exact (HL8.out.kept hkS (fun x hx e => by omega)).more (fun x hx => ⟨by omega, by simp only [World.size_setCell]; omega⟩)
     | false =>
       have HEQ := Lib.hid (buildF_first (fun h => by have := HB.out.2 h; cases this))
       clear hab
       have x0 := HQ8.out.b2.cell 0
       have x1 := HQ8.out.b2.cell 1
       have y0 := HQ8.out.b2.frozen 0
       have y1 := HQ8.out.b2.frozen 1
       have zx := HQ8.out.b2.lt
       simp only [List.getElem?_toArray, List.getElem?_cons_succ, List.getElem?_cons_zero] at x0 x1
       go_wp2
       refine bodyPost_ret (v := .tuple #[.agg #[.int .i64 (p.wide.length : Int), .slice A5 p.code.length c5], .int .i64 0]) ?_ rfl ?_
       · simp [results, Tryz.results14, go_sem, x0, x1]
       · have hkS := ((Kept.refl (fun b => b = w.heap.size + 2) w8).setCell (p := ⟨w.heap.size + 2, 0, none⟩) (fun _ => rfl) (.int .i64 (p.wide.length : Int))).setCell (p := ⟨w.heap.size + 2, 1, none⟩) (fun _ => rfl) (.slice A5 p.code.length c5)
         refine HDEF.out _ _ ⟨(HQ8.out.fr.setCell (fun e => by simp only at e; omega) _).setCell (fun e => by simp only at e; omega) _, Or.inr ⟨HMB.out, HTG.out, A5, c5, rfl, ?_⟩⟩
         rw [HEQ.out]
         exact (HLR8.out.kept hkS (fun x hx e => by omega)).more (fun x hx => ⟨by omega, by simp only [World.size_setCell]; omega⟩)
end Go.Proofs.YtodmkjeankbieaaGreatDoor


namespace Go.Proofs.YtodmkjeankbieaaGreatDoor
open Go.RowKit Go.Sort

set_option maxHeartbeats 1000000 in
set_option maxRecDepth 100000 in
theorem dGet_any (bs : Nat) (s : Sto) (a : PlaceV) (w : World) (h : Blk w bs 97 (stC s)) (hs : StOk s) (ha : Has a) :
   Calls Tryz.prog 37 #[.pointer (some ⟨bs, 0, none⟩), a.val] w fun e w' => e = .returned (.int .u64 (getS s a)) ∧ Fr w w' := by
 obtain ⟨h1, h2, h3⟩ := ha
 obtain ⟨k, n⟩ := a
 simp only at h1 h2 h3
 unfold PlaceV.val
 simp only
 have zb := h.lt
 have F0 := Lib.hid (show Fr w (w.alloc (.cells #[.int .i64 k, .int .i64 n] 99)) from (Kept.refl _ w).alloc _)
 by_cases e1 : k = 1
 · subst e1
   have hn := h1 rfl
   obtain ⟨m, rfl⟩ : ∃ m : Nat, n = (m : Int) := ⟨n.toNat, by omega⟩
   have c0 := (h.cell m).trans (stC_sg (by omega))
   have r0 := hs.sg m
   have hg : Hid (getS s ⟨1, m⟩ = s.sg m) := rfl
   clear h1 h2 h3 h hs
   generalize s.sg m = x at *
   go_enter Tryz.func37, Tryz.ntmps37
   go_wp2
   go_quiet (fail)
   go_wp2
   go_ret
   refine ⟨?_, F0.out.drewN nq⟩
   rw [hg.out]; rfl
 · by_cases e2 : k = 2
   · subst e2
     have hn := h2 rfl
     obtain ⟨m, rfl⟩ : ∃ m : Nat, n = (m : Int) := ⟨n.toNat, by omega⟩
     have c0 := (h.cell (2 * m)).trans (stC_sg (by omega))
     have c1 := (h.cell (2 * m + 1)).trans (stC_sg (by omega))
     have r0 := hs.sg (2 * m)
     have r1 := hs.sg (2 * m + 1)
     have hg : Hid (getS s ⟨2, m⟩ = s.sg (2 * m + 1) * 4294967296 + s.sg (2 * m)) := rfl
     rw [show ((2 * m : Nat) : Int) = 2 * (m : Int) by omega] at c0
     rw [show ((2 * m + 1 : Nat) : Int) = 2 * (m : Int) + 1 by omega] at c1
     clear h1 h2 h3 h hs
     generalize s.sg (2 * m + 1) = y at *
     generalize s.sg (2 * m) = x at *
     have hor := or_u64 x y r0.1 r0.2 r1.1 r1.2
     go_enter Tryz.func37, Tryz.ntmps37
     go_wp2
     go_quiet (fail)
     go_wp2
     go_ret
     refine ⟨?_, F0.out.drewN nq⟩
     rw [hg.out]; rfl
   · by_cases e3 : k = 3
     · subst e3
       have hn := h3 rfl
       obtain ⟨m, rfl⟩ : ∃ m : Nat, n = (m : Int) := ⟨n.toNat, by omega⟩
       have c0 := (h.cell (16 + m)).trans (stC_sl (by omega))
       have r0 := hs.sl m
       have hg : Hid (getS s ⟨3, m⟩ = s.sl m) := rfl
       clear h1 h2 h3 h hs
       generalize s.sl m = x at *
       go_enter Tryz.func37, Tryz.ntmps37
       go_wp2
       go_quiet (fail)
       go_wp2
       go_ret
       refine ⟨?_, F0.out.drewN nq⟩
       rw [hg.out]; rfl
     · have hg : Hid (getS s ⟨k, n⟩ = 0) := by show _ = _; unfold getS; rw [if_neg e1, if_neg e2, if_neg e3]
       have e1' : (k == 1) = false := by simpa using e1
       have e2' : (k == 2) = false := by simpa using e2
       have e3' : (k == 3) = false := by simpa using e3
       clear h1 h2 h3 h hs
       go_enter Tryz.func37, Tryz.ntmps37
       go_wp2
       go_ret
       refine ⟨?_, F0.out⟩
       rw [hg.out]; rfl

set_option maxHeartbeats 1000000 in
set_option maxRecDepth 100000 in
theorem dPut_any (bs : Nat) (s : Sto) (a : PlaceV) (v : Int) (w : World) (h : Blk w bs 97 (stC s)) (ha : Has a) (hv : 0 ≤ v ∧ v < 18446744073709551616) :
   Calls Tryz.prog 38 #[.pointer (some ⟨bs, 0, none⟩), a.val, .int .u64 v] w fun e w' => e = .returned (.tuple #[]) ∧ Blk w' bs 97 (stC (putS s a v)) ∧ Kept (fun b => b = bs) w w' := by
 obtain ⟨h1, h2, h3⟩ := ha
 obtain ⟨k, n⟩ := a
 simp only at h1 h2 h3
 unfold PlaceV.val
 simp only
 have zb := h.lt
 have F0 := Lib.hid (show Kept (fun b => b = bs) w (w.alloc (.cells #[.int .i64 k, .int .i64 n] 99)) from (Kept.refl _ w).alloc _)
 have HB := Lib.hid h
 have HK := Lib.hid (fun p x (hp : p.block = bs) => (Kept.refl (fun b => b = bs) w).setCell (p := p) (fun _ => hp) x)
 by_cases e1 : k = 1
 · subst e1
   have hn := h1 rfl
   obtain ⟨m, rfl⟩ : ∃ m : Nat, n = (m : Int) := ⟨n.toNat, by omega⟩
   have c0 := (h.cell m).trans (stC_sg (by omega))
   have y0 := h.frozen m
   have hg : Hid (putS s ⟨1, m⟩ v = { s with sg := upd s.sg m (v % 4294967296) }) := rfl
   have HS := Lib.hid (stC_setg (s := s) (t := m) (by omega) (v % 4294967296))
   clear h1 h2 h3 h
   generalize s.sg m = x at *
   go_enter Tryz.func38, Tryz.ntmps38
   go_wp2
   go_region
   go_wp2
   go_end0
   refine ⟨rfl, ?_, ((HK.out ⟨bs, m, none⟩ _ rfl).alloc _).drew⟩
   have := HB.out.set_ m (.int .u32 (v % 4294967296))
   rw [HS.out] at this
   rw [hg.out]; exact this.alloc _
 · by_cases e2 : k = 2
   · subst e2
     have hn := h2 rfl
     obtain ⟨m, rfl⟩ : ∃ m : Nat, n = (m : Int) := ⟨n.toNat, by omega⟩
     have c0 := (h.cell (2 * m)).trans (stC_sg (by omega))
     have c1 := (h.cell (2 * m + 1)).trans (stC_sg (by omega))
     have y0 := h.frozen (2 * m)
     have y1 := h.frozen (2 * m + 1)
     have hg : Hid (putS s ⟨2, m⟩ v = { s with sg := upd (upd s.sg (2 * m) (v % 4294967296)) (2 * m + 1) (v / 4294967296) }) := rfl
     clear h1 h2 h3 h
     go_enter Tryz.func38, Tryz.ntmps38
     go_wp2
     go_region
     go_wp2
     go_end0
     refine ⟨rfl, ?_, (((HK.out ⟨bs, 2 * m, none⟩ _ rfl).setCell (p := ⟨bs, 2 * m + 1, none⟩) (fun _ => rfl) _).alloc _).drew⟩
     have := HB.out.set_ (2 * m) (.int .u32 (v % 4294967296))
     rw [stC_setg (by omega)] at this
     have := this.set_ (2 * m + 1) (.int .u32 (v / 4294967296))
     rw [stC_setg (by omega), show ((2 * m : Nat) : Int) = 2 * (m : Int) by omega, show ((2 * m + 1 : Nat) : Int) = 2 * (m : Int) + 1 by omega] at this
     rw [hg.out]; exact this.alloc _
   · by_cases e3 : k = 3
     · subst e3
       have hn := h3 rfl
       obtain ⟨m, rfl⟩ : ∃ m : Nat, n = (m : Int) := ⟨n.toNat, by omega⟩
       have c0 := (h.cell (16 + m)).trans (stC_sl (by omega))
       have y0 := h.frozen (16 + m)
       have hg : Hid (putS s ⟨3, m⟩ v = { s with sl := upd s.sl m v }) := rfl
       have HS := Lib.hid (stC_setl (s := s) (t := m) v)
       clear h1 h2 h3 h
       generalize s.sl m = x at *
       go_enter Tryz.func38, Tryz.ntmps38
       go_wp2
       go_region
       go_wp2
       go_end0
       refine ⟨rfl, ?_, ((HK.out ⟨bs, 16 + m, none⟩ _ rfl).alloc _).drew⟩
       have := HB.out.set_ (16 + m) (.int .u64 v)
       rw [HS.out] at this
       rw [hg.out]; exact this.alloc _
     · have hg : Hid (putS s ⟨k, n⟩ v = s) := by show _ = _; unfold putS; rw [if_neg e1, if_neg e2, if_neg e3]
       have e1' : (k == 1) = false := by simpa using e1
       have e2' : (k == 2) = false := by simpa using e2
       have e3' : (k == 3) = false := by simpa using e3
       clear h1 h2 h3 h
       go_enter Tryz.func38, Tryz.ntmps38
       go_wp2
       go_end0
       exact ⟨rfl, by rw [hg.out]; exact HB.out.alloc _, F0.out⟩
end Go.Proofs.YtodmkjeankbieaaGreatDoor


namespace Go.Proofs.YtodmkjeankbieaaGreatDoor
open Go.RowKit Go.Sort

set_option maxHeartbeats 1000000 in
set_option maxRecDepth 100000 in
theorem dMoves_any (R : Nat → Prop) (bs : Nat) (s : Sto) (v : Value) (l : List Mv) (w : World) (h : Blk w bs 97 (stC s)) (hs : StOk s) (hr : RdMv w R v l) (hR : ∀ b, R b → b ≠ bs) (hl : l.length ≤ 1000) (hm : ∀ m ∈ l, MvHas m) :
   Calls Tryz.prog 36 #[.pointer (some ⟨bs, 0, none⟩), v] w fun e w' => e = .returned (.tuple #[]) ∧ Blk w' bs 97 (stC (movesS s l)) ∧ Kept (fun b => b = bs) w w' ∧ StOk (movesS s l) := by
 obtain ⟨A, c, rfl, _, hr, _⟩ := hr
 have HR := Lib.hid hr
 have HM := Lib.hid hm
 have HRB := Lib.hid hR
 have H0 := Lib.hid h
 have HS := Lib.hid hs
 clear hr hm hR h hs
 go_enter Tryz.func36, Tryz.ntmps36
 go_wp2
 go_loopw [8] (fun i wr => ∃ k : Nat, k ≤ l.length ∧ i = .int .i64 k ∧ Hid (Blk wr bs 97 (stC (movesS s (l.take k))) ∧ Kept (fun b => b = bs) w wr ∧ StOk (movesS s (l.take k)))) (fun i _ => l.length - (intOf i).toNat)
 case atStart => exact ⟨0, Nat.zero_le _, rfl, H0.out, Kept.refl _ w, HS.out⟩
 case round =>
   obtain ⟨k, hk, rfl, hx⟩ := hrel
   by_cases hlt : k < l.length
   · have hg : l[k]? = some l[k] := List.getElem?_eq_getElem hlt
     obtain ⟨b, off, rfl, hRb, c0, c1, c2, c3, c4, c5⟩ := (HR.out.kept hx.out.2.1 (fun b hb e => HRB.out b hb e)).mv hg
     have hmv := HM.out _ (List.getElem_mem hlt)
     have HT := Lib.hid (moves_take (s := s) hg)
     have HO := Lib.hid (hx.out.2.2.move hmv)
     have hbl := cell_lt c0
     have hk0 : (0 : Int) ≤ (k : Int) := Int.natCast_nonneg _
     have hk1 : (k : Int) < (l.length : Int) := by omega
     clear hg
     generalize l[k] = m at *
     obtain ⟨⟨tk, tn⟩, ⟨fk, fn⟩, mc, n⟩ := m
     simp only at c0 c1 c2 c3 c4 c5
     have hto := hmv.to
     have hfr := hmv.fr
     have hn := hmv.n
     simp only at hto hfr hn
     have HTO := Lib.hid hto
     have HFR := Lib.hid hfr
     have HX := Lib.hid hx.out
     clear hmv hto hfr hx
     generalize movesS s (l.take k) = s' at *
     obtain ⟨wB, rfl⟩ : ∃ wB : World, wB = wr := ⟨_, rfl⟩
     cases mc with
     | true =>
       have hwB : Hid (Blk (wB.alloc (.cells #[.int .i64 tk, .int .i64 tn, .int .i64 fk, .int .i64 fn, .bool true, .int .u32 n] 141)) bs 97 (stC s')) := HX.out.1.alloc _
       have hkB : Hid (Kept (fun b => b = bs) w (wB.alloc (.cells #[.int .i64 tk, .int .i64 tn, .int .i64 fk, .int .i64 fn, .bool true, .int .u32 n] 141))) := HX.out.2.1.alloc _
       go_wp2_with fail
       refine (dPut_any bs s' ⟨tk, tn⟩ (n : Int) _ hwB.out HTO.out (by omega)).mono ?_
       rintro e w1 ⟨rfl, hb1, k1⟩
       have HN := Lib.hid (And.intro hb1 (And.intro (hkB.out.trans k1) HO.out))
       clear hb1 k1
       go_wp2
       go_roundw
       case rel => exact ⟨k + 1, by omega, by go_num, by show _ ∧ _; rw [HT.out]; exact HN.out⟩
       case measure => simp [intOf]; omega
     | false =>
       go_wp2
       have HBm := Lib.hid (Blk.new wB 141 #[.int .i64 tk, .int .i64 tn, .int .i64 fk, .int .i64 fn, .bool false, .int .u32 n])
       have hwB : Hid (Blk (wB.alloc (.cells #[.int .i64 tk, .int .i64 tn, .int .i64 fk, .int .i64 fn, .bool false, .int .u32 n] 141)) bs 97 (stC s')) := HX.out.1.alloc _
       have hkB : Hid (Kept (fun b => b = bs) w (wB.alloc (.cells #[.int .i64 tk, .int .i64 tn, .int .i64 fk, .int .i64 fn, .bool false, .int .u32 n] 141))) := HX.out.2.1.alloc _
       have hne : wB.heap.size ≠ bs := by have := HX.out.1.lt; omega
       generalize wB.alloc (.cells #[.int .i64 tk, .int .i64 tn, .int .i64 fk, .int .i64 fn, .bool false, .int .u32 n] 141) = W at *
       clear c0 c1 c2 c3 c4 c5 hbl
       have e0 := HBm.out.cell 0
       have e1 := HBm.out.cell 1
       have e2 := HBm.out.cell 2
       have e3 := HBm.out.cell 3
       have zm := HBm.out.lt
       simp only [List.getElem?_toArray, List.getElem?_cons_succ, List.getElem?_cons_zero] at e0 e1 e2 e3
       have HGT := Lib.hid (HX.out.2.2.get ⟨fk, fn⟩)
       go_region_held3 (fun w' => w'.cell? ⟨wB.heap.size, 0, none⟩ = some (.int .i64 tk) ∧ w'.cell? ⟨wB.heap.size, 1, none⟩ = some (.int .i64 tn) ∧ w'.cell? ⟨wB.heap.size, 2, none⟩ = some (.int .i64 fk) ∧ w'.cell? ⟨wB.heap.size, 3, none⟩ = some (.int .i64 fn))
         (first
           | go_keep
           | (go_split_ands
              have hB3 := HBm.out.kept ((Kept.refl (fun _ => False) W).drew.trans f1) (fun h => h)
              refine ⟨?_, ?_, ?_, ?_⟩
              · exact hB3.cell 0
              · exact hB3.cell 1
              · exact hB3.cell 2
              · exact hB3.cell 3)
           | (go_split_ands
              have hB3 := (HBm.out.kept ((Kept.refl (fun _ => False) W).drew.trans f1) (fun h => h)).kept k2 hne
              refine ⟨?_, ?_, ?_, ?_⟩
              · exact hB3.cell 0
              · exact hB3.cell 1
              · exact hB3.cell 2
              · exact hB3.cell 3))
         (first
           | (go_at_call 37; refine (dGet_any bs s' ⟨fk, fn⟩ _ (hwB.out.kept ((Kept.refl (fun _ => False) W).drew) (fun h => h)) HX.out.2.2 (HFR.out (by trivial))).mono ?_; rintro e w1 ⟨rfl, f1⟩)
           | (go_at_call 38; refine (dPut_any bs s' ⟨tk, tn⟩ (getS s' ⟨fk, fn⟩) _ (hwB.out.kept (((Kept.refl (fun _ => False) W).drew).trans f1) (fun h => h)) HTO.out HGT.out).mono ?_; rintro e w2 ⟨rfl, hb2, k2⟩))
       have HN := Lib.hid (And.intro hb2 (And.intro ((hkB.out.trans ((((Kept.refl (fun _ => False) W).drew).trans f1).mono (fun _ _ h => h.elim))).trans k2) HO.out))
       clear hb2 k2 f1
       go_wp2
       go_roundw
       case rel => exact ⟨k + 1, by omega, by go_num, by show _ ∧ _; rw [HT.out]; exact HN.out⟩
       case measure => simp [intOf]; omega
   · obtain rfl : k = l.length := by omega
     have HN := Lib.hid hx.out
     rw [List.take_length] at HN
     go_wp2
     go_end0
     exact ⟨rfl, HN.out.1, HN.out.2.1, HN.out.2.2⟩
end Go.Proofs.YtodmkjeankbieaaGreatDoor

