/- Texts of this claim, packed. -/
import Derived.Test.YtodmkjeankbieabKAllk33
import Derived.Test.YtodmkjeankbieabKAllk13
set_option linter.all false
namespace Go.Proofs.Ytodmkjeankbieab
open Go.RowKit Go.Sort Go.Maps

noncomputable def regsB (p : Pg) (sg : Int) : List PlaceV := regsL p.wide.length (colF p (sg - 4).toNat)
noncomputable def firstL (p : Pg) (sg : Int) : Pd := placedF p sg (regsB p sg) noKn
open Classical in
noncomputable def knB (p : Pg) (sg : Int) : Nat → Int → Option Nat := fun k t => if Come p.code k then knS (Kn p sg (firstL p sg) k) t else none
noncomputable def againL (p : Pg) (sg : Int) : Pd := placedF p sg (regsB p sg) (knB p sg)
open Classical in
noncomputable def buildF (p : Pg) (sg : Int) : Pd := if mayL p sg (againL p sg) = true ∧ Taken p sg (againL p sg) then againL p sg else firstL p sg
theorem regsB_ok {p : Pg} {sg : Int} (ht : tgB sg = true) : ColOk p (sg - 4) (regsB p sg) := by
 obtain ⟨t1, t2, t3⟩ := tg_facts ht
 have h := (colF_ok p (sg - 4).toNat).ok
 rw [Int.toNat_of_nonneg (by omega)] at h
 exact h
theorem firstL_ok {p : Pg} {sg : Int} (hm : mayB p = true) (ht : tgB sg = true) : mayL p sg (firstL p sg) = true ∧ Taken p sg (firstL p sg) := by
 obtain ⟨t1, t2, t3⟩ := tg_facts ht
 exact ⟨build_may hm ht (regsB_ok ht), build_taken hm t1 t3 (regsB_ok ht)⟩
theorem buildF_ok {p : Pg} {sg : Int} (hm : mayB p = true) (ht : tgB sg = true) : mayL p sg (buildF p sg) = true ∧ Taken p sg (buildF p sg) := by
 unfold buildF
 split
 · assumption
 · exact firstL_ok hm ht
theorem buildF_again {p : Pg} {sg : Int} (h : mayL p sg (againL p sg) = true ∧ Taken p sg (againL p sg)) : buildF p sg = againL p sg := if_pos h
theorem buildF_first {p : Pg} {sg : Int} (h : ¬ (mayL p sg (againL p sg) = true ∧ Taken p sg (againL p sg))) : buildF p sg = firstL p sg := if_neg h
theorem colF_rng {p : Pg} {sg : Nat} (hs : sg ≤ 16) : ∀ t, t < p.wide.length → (colF p sg t).ok := by
 intro t ht
 rcases (colF_ok p sg).reg t ht with h | h
 · rw [h]; exact none_ok
 · exact isB_ok (sg := sg) (sl := 0) h.2 hs (by omega)

def BuildPost (w : World) (p : Pg) (sg : Int) (e : Ending) (w' : World) : Prop :=
 Fr w w' ∧ (((mayB p && tgB sg) = false ∧ e = .returned (.tuple #[.agg #[.int .i64 0, .slice none 0 0], .int .i64 2])) ∨
   (mayB p = true ∧ tgB sg = true ∧ ∃ A c, e = .returned (.tuple #[.agg #[.int .i64 (p.wide.length : Int), .slice A p.code.length c], .int .i64 0]) ∧
     RdPd w' (fun b => w.heap.size ≤ b ∧ b < w'.heap.size) (.agg #[.int .i64 (p.wide.length : Int), .slice A p.code.length c]) (buildF p sg)))

theorem rowsPost_at {w : World} {p : Pg} {sg : Int} {regs : List PlaceV} {kn : Nat → Int → Option Nat} {e : Ending} {w' : World} (h : RowsPost w (placedF p sg regs kn) e w') :
   ∃ A c, e = .returned (.agg #[.int .i64 (p.wide.length : Int), .slice A p.code.length c]) ∧ RdPd w' (fun b => w.heap.size ≤ b ∧ b < w'.heap.size) (.agg #[.int .i64 (p.wide.length : Int), .slice A p.code.length c]) (placedF p sg regs kn) ∧ Fr w w' := by
 obtain ⟨v, rfl, hr, hf⟩ := h
 obtain ⟨vr, l, rfl, hi, ⟨A, c, rfl, h1⟩, hrows⟩ := id hr
 have e : l.length = p.code.length := by
   have := congrArg List.length hrows
   simpa [placedF, rowsF] using this.symm
 rw [e] at hr ⊢
 exact ⟨A, c, rfl, hr, hf⟩

theorem knR_all {w w' : World} {p : Pg} {sg : Nat} {g0 : Nat} {vs : Nat → Value} (hm : mayL p (sg : Int) (firstL p (sg : Int)) = true) (hb : Blk w' g0 137 (mkS p.code.length vs))
   (h : ∀ k, k < p.code.length → (Come p.code k → AtV w' (vs k) (some (Kn p (sg : Int) (firstL p (sg : Int)) k))) ∧ (¬ Come p.code k → vs k = .map none)) :
   KnR w' p sg (.slice (some ⟨g0, 0, none⟩) p.code.length p.code.length) (knB p (sg : Int)) := by
 refine Or.inr ⟨g0, vs, rfl, hb, fun k hk => ?_⟩
 by_cases hc : Come p.code k
 · obtain ⟨b, e, hs⟩ := (h k hk).1 hc
   refine Or.inr ⟨b, _, e, hs, Kn_in hm k hc, Kn_uni hm k hc, fun t => ?_⟩
   unfold knB
   rw [if_pos hc]
 · refine Or.inl ⟨(h k hk).2 hc, fun t => ?_⟩
   unfold knB
   rw [if_neg hc]
theorem KnR.fr {w w' : World} {p : Pg} {sg : Nat} {kv : Value} {kn : Nat → Int → Option Nat} (h : KnR w p sg kv kn) (hk : Fr w w') : KnR w' p sg kv kn := by
 rcases h with h | ⟨gk, vs, h1, h2, h3⟩
 · exact Or.inl h
 · exact Or.inr ⟨gk, vs, h1, h2.kept hk (fun h => h), fun k hkl => (h3 k hkl).fr hk⟩
theorem rows_any (gb g0 : Nat) (R : Nat → Prop) (p : Pg) (A : Option Addr) (c : Nat) (A' : Option Addr) (c' sg : Nat) (o : Nat → PlaceV) (kv : Value) (kn : Nat → Int → Option Nat) (w : World) (h : Bd w gb g0 R p A c A' c' sg o) (hR : ∀ x, R x → x < w.heap.size) (hm : mayB p = true) (hs : 4 ≤ sg) (hs1 : sg ≤ 16) (ho : ∀ t, t < p.wide.length → (o t).ok) (hn : NumOk p) (hK : KnR w p sg kv kn) :
   Calls Try.prog 76 #[.pointer (some ⟨gb, 0, none⟩), kv] w (RowsPost w (placedF p (sg : Int) (regsL p.wide.length o) kn)) := by
 rcases hK with ⟨rfl, hK⟩ | ⟨gk, vs, rfl, hB, hK⟩
 · exact rows_nil gb g0 R p A c A' c' sg o kn w h hR hm hs hs1 ho hn hK
 · exact rows_set gb g0 R p A c A' c' sg o gk vs kn w h hR hm hs hs1 ho hn hB hK

set_option maxHeartbeats 16000000 in
set_option maxRecDepth 100000 in
theorem build_any (R : Nat → Prop) (v : Value) (p : Pg) (sg : Int) (w : World) (h : RdPg w R v p) : Calls Try.prog 33 #[v, tgV sg] w (BuildPost w p sg) := by
 have H := Lib.hid h.old
 have HNU := Lib.hid (show NumOk p from by
   obtain ⟨_, _, e, _, ⟨_, _, e2, _, _, ho⟩⟩ := h
   exact fun i hi => (ho i hi).2.2.2.2.2)
 obtain ⟨vw, vc, rfl, ⟨A1, c1, rfl, hl1, hr1⟩, ⟨A, c2, rfl, hl2, hr2, ho2⟩⟩ := h
 clear hr1 hr2 ho2
 have HMy := Lib.hid (fun w2 (hf : Fr w w2) => May_any _ _ p w2 (H.out.kept hf (fun _ _ h => h)))
 have HTA := Lib.hid (fun w2 => Target_any sg w2)
 have HQ := Lib.hid (Q3.start w #[.slice A1 p.wide.length c1, .slice A p.code.length c2] #[.int .i64 sg] #[.int .i64 0, .slice none 0 0])
 have HDEF : Hid (∀ (e : Ending) (w' : World), (Fr w w' ∧ (((mayB p && tgB sg) = false ∧ e = .returned (.tuple #[.agg #[.int .i64 0, .slice none 0 0], .int .i64 2])) ∨
   (mayB p = true ∧ tgB sg = true ∧ ∃ A c, e = .returned (.tuple #[.agg #[.int .i64 (p.wide.length : Int), .slice A p.code.length c], .int .i64 0]) ∧
     RdPd w' (fun b => w.heap.size ≤ b ∧ b < w'.heap.size) (.agg #[.int .i64 (p.wide.length : Int), .slice A p.code.length c]) (buildF p sg)))) → BuildPost w p sg e w') := fun _ _ h => h
 unfold tgV at HTA ⊢
 go_enter Try.func33, Try.ntmps33
 go_wp2_with fail
 refine (HMy.out _ HQ.out.fr).mono ?_
 rintro e w2 ⟨rfl, f2⟩
 have HQ2 := Lib.hid (HQ.out.keep f2)
 clear HQ f2 HMy
 have t0 := HQ2.out.b1.cell 0
 have z1 := HQ2.out.b1.lt
 simp only [List.getElem?_toArray, List.getElem?_cons_succ, List.getElem?_cons_zero] at t0
 cases hm : mayB p with
 | false =>
   have HNO : Hid ((mayB p && tgB sg) = false) := by show _ = _; rw [hm]; rfl
   have HQE := HQ2
   clear hm
   have x0 := HQE.out.b2.cell 0
   have x1 := HQE.out.b2.cell 1
   have y0 := HQE.out.b2.frozen 0
   have y1 := HQE.out.b2.frozen 1
   have zx := HQE.out.b2.lt
   simp only [List.getElem?_toArray, List.getElem?_cons_succ, List.getElem?_cons_zero] at x0 x1
   go_wp2
   refine bodyPost_ret (v := .tuple #[.agg #[.int .i64 0, .slice none 0 0], .int .i64 2]) ?_ rfl ?_
   · simp [results, Try.results33, go_sem, x0, x1]
   · exact HDEF.out _ _ ⟨(HQE.out.fr.setCell (fun e => by simp only at e; omega) _).setCell (fun e => by simp only at e; omega) _, Or.inl ⟨HNO.out, rfl⟩⟩
 | true =>
   have HMB := Lib.hid hm
   clear hm
   go_wp2_with fail
   refine (HTA.out _).mono ?_
   rintro e w3 ⟨rfl, f3⟩
   have HQ3 := Lib.hid (HQ2.out.keep f3)
   clear HQ2 f3 HTA t0 z1
   have t0 := HQ3.out.b1.cell 0
   have z1 := HQ3.out.b1.lt
   have q0 := HQ3.out.b0.cell 0
   have q1 := HQ3.out.b0.cell 1
   have z0 := HQ3.out.b0.lt
   simp only [List.getElem?_toArray, List.getElem?_cons_succ, List.getElem?_cons_zero] at t0 q0 q1
   cases ht : tgB sg with
   | false =>
     have HNO : Hid ((mayB p && tgB sg) = false) := by show _ = _; rw [ht]; simp
     have HQE := HQ3
     clear ht
     have x0 := HQE.out.b2.cell 0
     have x1 := HQE.out.b2.cell 1
     have y0 := HQE.out.b2.frozen 0
     have y1 := HQE.out.b2.frozen 1
     have zx := HQE.out.b2.lt
     simp only [List.getElem?_toArray, List.getElem?_cons_succ, List.getElem?_cons_zero] at x0 x1
     go_wp2
     refine bodyPost_ret (v := .tuple #[.agg #[.int .i64 0, .slice none 0 0], .int .i64 2]) ?_ rfl ?_
     · simp [results, Try.results33, go_sem, x0, x1]
     · exact HDEF.out _ _ ⟨(HQE.out.fr.setCell (fun e => by simp only at e; omega) _).setCell (fun e => by simp only at e; omega) _, Or.inl ⟨HNO.out, rfl⟩⟩
   | true =>
     have HTG := Lib.hid ht
     obtain ⟨m1, m2, m3⟩ := tg_facts ht
     obtain ⟨sg, rfl⟩ : ∃ n : Nat, sg = (n : Int) := ⟨sg.toNat, by omega⟩
     clear ht
     obtain ⟨lw, lw2, lc, lc2⟩ := mayB_len HMB.out
     have hwr : IntKind.i64.wrap ((sg : Int) - 4) = (sg : Int) - 4 := by simp [IntKind.wrap, IntKind.bits, IntKind.signed]; omega
     have HMK := Lib.hid (fun w9 (hf : Fr w w9) => make_any _ _ p ((sg : Int) - 4) w9 (H.out.kept hf (fun _ _ h => h)))
     have hzw := HQ3.out.fr.size
     have hz3 : w.heap.size + 3 ≤ w3.heap.size := by have := HQ3.out.b2.lt; omega
     go_wp2_with fail
     refine (HMK.out _ (HQ3.out.fr.alloc _)).mono ?_
     rintro e w4 ⟨f4, hc⟩
     rcases hc with ⟨hc, _⟩ | ⟨_, hc, _⟩ | ⟨_, _, _, _, g0, rfl, hg0, hob⟩
     · exfalso; rw [HMB.out] at hc; cases hc
     · exfalso; omega
     simp only [World.size_alloc] at hg0
     have hbb := (Blk.new w3 133 #[.slice A1 p.wide.length c1, .slice A p.code.length c2, .int .i64 (sg : Int), .slice none 0 0]).kept f4 (fun h => h)
     have HQ4 := Lib.hid ((HQ3.out.keep ((Kept.refl (fun _ => False) w3).alloc (.cells #[.slice A1 p.wide.length c1, .slice A p.code.length c2, .int .i64 (sg : Int), .slice none 0 0] 133))).keep f4)
     have b3 := hbb.cell 3
     have y3 := hbb.frozen 3
     have zb := hbb.lt
     simp only [List.getElem?_toArray, List.getElem?_cons_succ, List.getElem?_cons_zero] at b3
     have hk4 : Kept (fun b => b = w3.heap.size) w4 (w4.setCell ⟨w3.heap.size, 3, none⟩ (.slice (some ⟨g0, 0, none⟩) p.wide.length p.wide.length)) := (Kept.refl (fun b => b = w3.heap.size) w4).setCell (p := ⟨w3.heap.size, 3, none⟩) (fun _ => rfl) _
     have hb4 : Blk (w4.setCell ⟨w3.heap.size, 3, none⟩ (.slice (some ⟨g0, 0, none⟩) p.wide.length p.wide.length)) w3.heap.size 133 #[.slice A1 p.wide.length c1, .slice A p.code.length c2, .int .i64 (sg : Int), .slice (some ⟨g0, 0, none⟩) p.wide.length p.wide.length] := by
       have := hbb.set_ 3 (.slice (some ⟨g0, 0, none⟩) p.wide.length p.wide.length)
       simpa using this
     have HBD := Lib.hid (show Bd (w4.setCell ⟨w3.heap.size, 3, none⟩ (.slice (some ⟨g0, 0, none⟩) p.wide.length p.wide.length)) w3.heap.size g0 (fun b => b < w.heap.size) p A1 c1 A c2 sg (colF p (sg - 4)) from
       ⟨⟨hb4⟩, by
         have e : ((sg : Int) - 4).toNat = sg - 4 := by omega
         rw [e] at hob
         exact hob.kept hk4 (by omega), (H.out.kept HQ4.out.fr (fun _ _ h => h)).kept hk4 (fun b hb e => by omega)⟩)
     have HQ5 := Lib.hid (show Q3 w (w4.setCell ⟨w3.heap.size, 3, none⟩ (.slice (some ⟨g0, 0, none⟩) p.wide.length p.wide.length)) #[.slice A1 p.wide.length c1, .slice A p.code.length c2] #[.int .i64 (sg : Int)] #[.int .i64 0, .slice none 0 0] from ⟨HQ4.out.b0.kept hk4 (by omega), HQ4.out.b1.kept hk4 (by omega), HQ4.out.b2.kept hk4 (by omega), HQ4.out.fr.then hk4 (fun i hi e => by omega)⟩)
     have HCR := Lib.hid (colF_rng (p := p) (sg := sg - 4) (by omega))
     have hzz := hk4.size
     obtain ⟨w5, hw5⟩ : ∃ w5 : World, w5 = (w4.setCell ⟨w3.heap.size, 3, none⟩ (.slice (some ⟨g0, 0, none⟩) p.wide.length p.wide.length)) := ⟨_, rfl⟩
     rw [← hw5] at HBD HQ5 hzz
     have HW5 := Lib.hid hw5
     clear hw5 hk4 hb4 hbb hob HQ4 HQ3 HMK f4 t0 z1 q0 q1 z0
     have HRO := Lib.hid (fun w9 kv kn (hf : Fr w5 w9) (hK : KnR w9 p sg kv kn) => rows_any w3.heap.size g0 _ p A1 c1 A c2 sg (colF p (sg - 4)) kv kn w9 (HBD.out.fr hf) (fun x hx => by have := hf.size; have := HQ5.out.fr.size; omega) HMB.out (by omega) (by omega) HCR.out HNU.out hK)
     have HRB : Hid (regsL p.wide.length (colF p (sg - 4)) = regsB p (sg : Int)) := by
       show _ = _
       unfold regsB
       rw [show ((sg : Int) - 4).toNat = sg - 4 by omega]
     rw [HRB.out] at HRO
     go_wp2_with fail
     rw [← HW5.out]
     refine (HRO.out w5 _ noKn (Kept.refl _ w5) (Or.inl ⟨rfl, fun _ _ => rfl⟩)).mono ?_
     intro e w6 hr6
     obtain ⟨A5, c5, rfl, hrd5, f6⟩ := rowsPost_at hr6
     clear hr6
     have HL1 := Lib.hid (show RdPd w6 (fun b => w.heap.size + 3 ≤ b ∧ b < w6.heap.size) (.agg #[.int .i64 (p.wide.length : Int), .slice A5 p.code.length c5]) (firstL p (sg : Int)) from hrd5.more (fun b hb => ⟨by omega, hb.2⟩))
     have HQ6 := Lib.hid (HQ5.out.keep f6)
     obtain ⟨hmL, htL⟩ := firstL_ok HMB.out HTG.out
     have HML := Lib.hid hmL
     have HTL := Lib.hid htL
     have hsl : (firstL p (sg : Int)).slots = ((p.wide.length : Nat) : Int) := rfl
     obtain ⟨lb, hlb⟩ : ∃ lb : Nat, lb = w6.heap.size := ⟨_, rfl⟩
     have HLB0 := Lib.hid (show Blk (w6.alloc (.cells #[.int .i64 (p.wide.length : Int), .slice A5 p.code.length c5] 50)) lb 50 #[.int .i64 (p.wide.length : Int), .slice A5 p.code.length c5] from by rw [hlb]; exact Blk.new w6 _ _)
     obtain ⟨w6a, hw6a⟩ : ∃ w6a : World, w6a = w6.alloc (.cells #[.int .i64 (p.wide.length : Int), .slice A5 p.code.length c5] 50) := ⟨_, rfl⟩
     have f6a : Fr w6 w6a := by rw [hw6a]; exact (Kept.refl _ w6).alloc _
     rw [← hw6a] at HLB0
     have HW6 := Lib.hid hw6a
     have HLBE := Lib.hid hlb
     clear hlb
     have HQA := Lib.hid (HQ6.out.keep f6a)
     have HF5 := Lib.hid (f6.trans f6a)
     have hz6 : w.heap.size + 3 ≤ w6a.heap.size := by have := HF5.out.size; omega
     have HLR := Lib.hid ((HL1.out.kept f6a (fun _ _ h => h)).more (fun b hb => (⟨hb.1, by have := f6a.size; omega⟩ : w.heap.size + 3 ≤ b ∧ b < w6a.heap.size)))
     have HOA := Lib.hid (fun w9 (hf : Fr w6a w9) => ofAll_any _ _ _ _ p sg p.wide.length (firstL p (sg : Int)) w9 (H.out.kept (HQA.out.fr.trans hf) (fun _ _ h => h)) (HLR.out.kept hf (fun _ _ h => h)) HML.out hsl)
     have q0 := HQA.out.b0.cell 0
     have q1 := HQA.out.b0.cell 1
     have t0 := HQA.out.b1.cell 0
     have z0 := HQA.out.b0.lt
     have z1 := HQA.out.b1.lt
     have s0 := HLB0.out.cell 0
     have s1 := HLB0.out.cell 1
     have zl := HLB0.out.lt
     simp only [List.getElem?_toArray, List.getElem?_cons_succ, List.getElem?_cons_zero] at q0 q1 t0 s0 s1
     clear hw6a f6 f6a HQ5 HQ6 hrd5 hmL htL hsl
     go_wp2
     rw [← HW6.out, ← HLBE.out]
     go_region_held3 (fun w' => w'.cell? ⟨w.heap.size, 0, none⟩ = some (.slice A1 p.wide.length c1) ∧ w'.cell? ⟨w.heap.size, 1, none⟩ = some (.slice A p.code.length c2) ∧ w'.cell? ⟨w.heap.size + 1, 0, none⟩ = some (.int .i64 (sg : Int)) ∧ w'.cell? ⟨lb, 0, none⟩ = some (.int .i64 (p.wide.length : Int)) ∧ w'.cell? ⟨lb, 1, none⟩ = some (.slice A5 p.code.length c5))
       (first
         | go_keep
         | exact sa
         | exact sb)
       (first
         | (go_at_call 62; refine (HOA.out _ ((Kept.refl (fun _ => False) w6a).drew)).mono ?_; rintro e wa ⟨gw, rfl, fa0, hall⟩; have fa := (Kept.refl (fun _ => False) w6a).drew.trans fa0; have sa := (show wa.cell? ⟨w.heap.size, 0, none⟩ = some (.slice A1 p.wide.length c1) ∧ wa.cell? ⟨w.heap.size, 1, none⟩ = some (.slice A p.code.length c2) ∧ wa.cell? ⟨w.heap.size + 1, 0, none⟩ = some (.int .i64 (sg : Int)) ∧ wa.cell? ⟨lb, 0, none⟩ = some (.int .i64 (p.wide.length : Int)) ∧ wa.cell? ⟨lb, 1, none⟩ = some (.slice A5 p.code.length c5) from ⟨(fa.cell z0 (fun h => h)).trans q0, (fa.cell z0 (fun h => h)).trans q1, (fa.cell z1 (fun h => h)).trans t0, (fa.cell zl (fun h => h)).trans s0, (fa.cell zl (fun h => h)).trans s1⟩); have hall2 := hall _ (Kept.refl (fun _ => False) wa))
         | (go_at_call 63; refine hall2.mono ?_; rintro e wb ⟨fb0, gk, vs, ok, rfl, hgk, hkb, hks, hok⟩; have fb := fa.trans fb0; have sb := (show wb.cell? ⟨w.heap.size, 0, none⟩ = some (.slice A1 p.wide.length c1) ∧ wb.cell? ⟨w.heap.size, 1, none⟩ = some (.slice A p.code.length c2) ∧ wb.cell? ⟨w.heap.size + 1, 0, none⟩ = some (.int .i64 (sg : Int)) ∧ wb.cell? ⟨lb, 0, none⟩ = some (.int .i64 (p.wide.length : Int)) ∧ wb.cell? ⟨lb, 1, none⟩ = some (.slice A5 p.code.length c5) from ⟨(fb.cell z0 (fun h => h)).trans q0, (fb.cell z0 (fun h => h)).trans q1, (fb.cell z1 (fun h => h)).trans t0, (fb.cell zl (fun h => h)).trans s0, (fb.cell zl (fun h => h)).trans s1⟩)))
     rename_i hHeld
     clear hHeld
     have HKR := Lib.hid (knR_all (w := w) HML.out hkb hks)
     have HQB := Lib.hid (HQA.out.keep fb)
     have HFB := Lib.hid (HF5.out.trans fb)
     have HLB1 := Lib.hid (HLB0.out.kept fb (fun h => h))
     have HLR1 := Lib.hid ((HLR.out.kept fb (fun _ _ h => h)).more (fun b hb => (⟨hb.1, by have := fb.size; omega⟩ : w.heap.size + 3 ≤ b ∧ b < wb.heap.size)))
     clear sa sb fa fb fa0 fb0 hok hall hall2 q0 q1 t0 s0 s1 z0 z1 zl hkb hks hgk HOA HQA HF5 HLR HLB0
     go_wp2_with fail
     refine (HRO.out wb _ _ HFB.out HKR.out).mono ?_
     intro e w7 hr7
     obtain ⟨A7, c7, rfl, hrd7, f7⟩ := rowsPost_at hr7
     clear hr7
     have hzb := HFB.out.size
     have HL7 := Lib.hid (show RdPd w7 (fun b => w.heap.size + 3 ≤ b ∧ b < w7.heap.size) (.agg #[.int .i64 (p.wide.length : Int), .slice A7 p.code.length c7]) (againL p (sg : Int)) from hrd7.more (fun b hb => ⟨by omega, hb.2⟩))
     have HQ7 := Lib.hid (HQB.out.keep f7)
     have HTK := Lib.hid (fun w9 (hf : Fr w7 w9) => takes_any _ _ _ _ p (sg : Int) (againL p (sg : Int)) w9 (H.out.kept (HQ7.out.fr.trans hf) (fun _ _ h => h)) (HL7.out.kept hf (fun _ _ h => h)))
     unfold tgV at HTK
     have HLB7 := Lib.hid (HLB1.out.kept f7 (fun h => h))
     have HLR7 := Lib.hid ((HLR1.out.kept f7 (fun _ _ h => h)).more (fun b hb => (⟨hb.1, by have := f7.size; omega⟩ : w.heap.size + 3 ≤ b ∧ b < w7.heap.size)))
     have q0 := HQ7.out.b0.cell 0
     have q1 := HQ7.out.b0.cell 1
     have t0 := HQ7.out.b1.cell 0
     have z0 := HQ7.out.b0.lt
     have z1 := HQ7.out.b1.lt
     simp only [List.getElem?_toArray, List.getElem?_cons_succ, List.getElem?_cons_zero] at q0 q1 t0
     clear f7 hrd7 HQB HFB HLB1 HLR1 HKR HRO
     go_wp2_with fail
     refine (HTK.out _ ((Kept.refl (fun _ => False) w7).alloc _)).mono ?_
     rintro e w8 ⟨b, rfl, hb, f8⟩
     have fa8 : Fr w7 w8 := ((Kept.refl (fun _ => False) w7).alloc _).trans f8
     have hab := (Blk.new w7 50 #[.int .i64 (p.wide.length : Int), .slice A7 p.code.length c7]).kept f8 (fun h => h)
     have HQ8 := Lib.hid (HQ7.out.keep fa8)
     have HLB8 := Lib.hid (HLB7.out.kept fa8 (fun h => h))
     have HLR8 := Lib.hid ((HLR7.out.kept fa8 (fun _ _ h => h)).more (fun b hb => (⟨hb.1, by have := fa8.size; omega⟩ : w.heap.size + 3 ≤ b ∧ b < w8.heap.size)))
     have HL8 := Lib.hid ((HL7.out.kept fa8 (fun _ _ h => h)).more (fun b hb => (⟨hb.1, by have := fa8.size; omega⟩ : w.heap.size + 3 ≤ b ∧ b < w8.heap.size)))
     have HB := Lib.hid hb
     clear hb q0 q1 t0 z0 z1 HTK
     have a0 := hab.cell 0
     have a1 := hab.cell 1
     have za := hab.lt
     have s0 := HLB8.out.cell 0
     have s1 := HLB8.out.cell 1
     have zl := HLB8.out.lt
     have hzl := HQ8.out.fr.size
     simp only [List.getElem?_toArray, List.getElem?_cons_succ, List.getElem?_cons_zero] at a0 a1 s0 s1
     cases b with
     | true =>
       have HEQ := Lib.hid (buildF_again (HB.out.1 rfl))
       clear hab
       have x0 := HQ8.out.b2.cell 0
       have x1 := HQ8.out.b2.cell 1
       have y0 := HQ8.out.b2.frozen 0
       have y1 := HQ8.out.b2.frozen 1
       have zx := HQ8.out.b2.lt
       simp only [List.getElem?_toArray, List.getElem?_cons_succ, List.getElem?_cons_zero] at x0 x1
       go_wp2
       refine bodyPost_ret (v := .tuple #[.agg #[.int .i64 (p.wide.length : Int), .slice A7 p.code.length c7], .int .i64 0]) ?_ rfl ?_
       · simp [results, Try.results33, go_sem, x0, x1]
       · have hkS := ((Kept.refl (fun b => b = w.heap.size + 2) w8).setCell (p := ⟨w.heap.size + 2, 0, none⟩) (fun _ => rfl) (.int .i64 (p.wide.length : Int))).setCell (p := ⟨w.heap.size + 2, 1, none⟩) (fun _ => rfl) (.slice A7 p.code.length c7)
         refine HDEF.out _ _ ⟨(HQ8.out.fr.setCell (fun e => by simp only at e; omega) _).setCell (fun e => by simp only at e; omega) _, Or.inr ⟨HMB.out, HTG.out, A7, c7, rfl, ?_⟩⟩
         rw [HEQ.out]
         exact (HL8.out.kept hkS (fun x hx e => by omega)).more (fun x hx => ⟨by omega, by simp only [World.size_setCell]; omega⟩)
     | false =>
       have HEQ := Lib.hid (buildF_first (fun h => by have := HB.out.2 h; cases this))
       clear hab
       have x0 := HQ8.out.b2.cell 0
       have x1 := HQ8.out.b2.cell 1
       have y0 := HQ8.out.b2.frozen 0
       have y1 := HQ8.out.b2.frozen 1
       have zx := HQ8.out.b2.lt
       simp only [List.getElem?_toArray, List.getElem?_cons_succ, List.getElem?_cons_zero] at x0 x1
       go_wp2
       refine bodyPost_ret (v := .tuple #[.agg #[.int .i64 (p.wide.length : Int), .slice A5 p.code.length c5], .int .i64 0]) ?_ rfl ?_
       · simp [results, Try.results33, go_sem, x0, x1]
       · have hkS := ((Kept.refl (fun b => b = w.heap.size + 2) w8).setCell (p := ⟨w.heap.size + 2, 0, none⟩) (fun _ => rfl) (.int .i64 (p.wide.length : Int))).setCell (p := ⟨w.heap.size + 2, 1, none⟩) (fun _ => rfl) (.slice A5 p.code.length c5)
         refine HDEF.out _ _ ⟨(HQ8.out.fr.setCell (fun e => by simp only at e; omega) _).setCell (fun e => by simp only at e; omega) _, Or.inr ⟨HMB.out, HTG.out, A5, c5, rfl, ?_⟩⟩
         rw [HEQ.out]
         exact (HLR8.out.kept hkS (fun x hx e => by omega)).more (fun x hx => ⟨by omega, by simp only [World.size_setCell]; omega⟩)
end Go.Proofs.Ytodmkjeankbieab

