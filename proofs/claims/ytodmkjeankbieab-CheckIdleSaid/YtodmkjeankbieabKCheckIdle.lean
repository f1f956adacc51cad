/-
  CheckIdle: for every program and target that may be: the places that are made are taken, and still are, where something is moved into a slot more ahead of any instruction. No condition.
-/
import Derived.Test.YtodmkjeankbieabKCheckIdlek2
import Derived.Test.YtodmkjeankbieabKCheckIdlek3
import Derived.Test.YtodmkjeankbieabKCheckIdlek14
import Derived.Test.YtodmkjeankbieabKCheckIdlek1
import Derived.Test.YtodmkjeankbieabKCheckIdlek24
import Derived.Deep.DrawnRows
import Derived.Deep.CutRange
namespace Go.Proofs.Ytodmkjeankbieab
open Go.RowKit Go.Sort

/-- one cell of one element is another -/
theorem flat_set {α : Type} {f : α → List Value} {s : Nat} (hs : ∀ x, (f x).length = s) : ∀ {l : List α} {k j : Nat} {x y : α} {u : Value}, l[k]? = some x → j < s → (f x).set j u = f y → (l.flatMap f).set (k * s + j) u = (l.set k y).flatMap f
  | [], _, _, _, _, _, h, _, _ => by simp at h
  | z :: l, 0, j, x, y, u, h, hj, he => by
    simp at h
    subst h
    rw [List.flatMap_cons, Nat.zero_mul, Nat.zero_add, List.set_append_left _ _ (by rw [hs]; exact hj), he]
    simp
  | z :: l, k + 1, j, x, y, u, h, hj, he => by
    have ih := flat_set hs (l := l) (k := k) (j := j) (x := x) (y := y) (u := u) (by simpa using h) hj he
    rw [List.flatMap_cons, List.set_append_right _ _ (by rw [hs, Nat.succ_mul]; omega), hs, show (k + 1) * s + j - s = k * s + j by rw [Nat.succ_mul]; omega, ih]
    simp
theorem own_blk {w : World} {base : Nat} {e : TypeId} {size n : Nat} {v : Value} {xs : List Value} (h : w.ownsRow base e size v n xs) (hn : 0 < n) :
    ∃ g c cur, v = .slice (some ⟨g, 0, none⟩) n c ∧ Blk w g e cur ∧ base ≤ g := by
  rcases h.2 with ⟨rfl, rfl⟩ | ⟨g, cap, cur, rfl, hb, hh, _⟩
  · omega
  · exact ⟨g, cap, cur, rfl, hh, hb⟩
end Go.Proofs.Ytodmkjeankbieab
namespace Go.Proofs.Ytodmkjeankbieab.checkIdle
open Go.ChangeShapes Go.WideShapes Go.ChangeAt Go.RowKit Go.Joins

set_option maxHeartbeats 8000000 in
set_option maxRecDepth 100000 in
theorem walk (R : Nat → Prop) (v : Value) (p : Pg) (sg : Int) (aN fN : Nat) (w : World) (h : RdPg w R v p) (ha : aN < 256) (hf : fN < 256) :
    Calls Try.prog 13 #[v, tgV sg, .int .u8 (aN : Int), .int .u8 (fN : Int)] w fun e w' => e = .returned (.bool true) ∧ Below w.heap.size w w' := by
  have H := Lib.hid h
  obtain ⟨vw, vc, rfl, ⟨A1, c1, rfl, hl1, hr1⟩, ⟨A2, c2, rfl, hl2, hr2, ho2⟩⟩ := h
  clear hr1 hr2 ho2 hl1 hl2
  have HQ := Lib.hid (Q2.start w #[.slice A1 p.wide.length c1, .slice A2 p.code.length c2] #[.int .i64 sg])
  have HBu := Lib.hid (fun w2 (hf : Fr w w2) => build_any R _ p sg w2 (H.out.kept hf (fun _ _ h => h)))
  have HTk := Lib.hid (fun R' vl l w2 (hf : Fr w w2) (hL : RdPd w2 R' vl l) => takes_any R R' _ vl p sg l w2 (H.out.kept hf (fun _ _ h => h)) hL)
  unfold tgV at HBu HTk ⊢
  go_enter Try.func13, Try.ntmps13
  go_wp2_with fail
  refine (HBu.out _ HQ.out.fr).mono ?_
  rintro e w4 ⟨f4, hb4⟩
  have HQ4 := Lib.hid (HQ.out.keep f4)
  clear f4 HBu HQ
  rcases hb4 with ⟨_, rfl⟩ | ⟨hmb, htb, Ab, cb, rfl, hrd⟩
  · have HF4 := Lib.hid (HQ4.out.fr.alloc (.cells #[.int .i64 0, .slice none 0 0] 50))
    have h1 := oneTakes (w4.alloc (.cells #[.int .i64 0, .slice none 0 0] 50))
    unfold oneW oneV oneC oneR at h1
    simp only [World.size_alloc] at h1
    have H1 := Lib.hid h1
    clear h1
    go_wp2_with fail
    trace "ONE"
    refine H1.out.mono ?_
    rintro e w5 ⟨rfl, f5⟩
    have HF5 := Lib.hid (HF4.out.trans f5)
    clear f5
    go_wp2
    go_ret
    exact ⟨rfl, Fr.below HF5.out⟩
  · obtain ⟨lw1, lw2, lc1, lc2⟩ := mayB_len hmb
    obtain ⟨sg1, sg2, sg3⟩ := tg_facts htb
    obtain ⟨hml, htl⟩ := buildF_ok hmb htb
    have HML := Lib.hid hml
    have HTL := Lib.hid htl
    have HSL := Lib.hid (buildF_slots (p := p) (sg := sg))
    have HRW := Lib.hid (buildF_rows (p := p) (sg := sg))
    generalize buildF p sg = L at *
    have hlb := Blk.new w4 50 #[.int .i64 (p.wide.length : Int), .slice Ab p.code.length cb]
    have hk5 : Fr w4 (w4.alloc (.cells #[.int .i64 (p.wide.length : Int), .slice Ab p.code.length cb] 50)) := (Kept.refl _ w4).alloc _
    obtain ⟨w5, hw5⟩ : ∃ w5 : World, w5 = w4.alloc (.cells #[.int .i64 (p.wide.length : Int), .slice Ab p.code.length cb] 50) := ⟨_, rfl⟩
    rw [← hw5] at hlb hk5
    have HLB := Lib.hid hlb
    have HW5 := Lib.hid hw5
    have HQ5 := Lib.hid (HQ4.out.keep hk5)
    have HRD := Lib.hid ((hrd.kept hk5 (fun _ _ h => h)).more (fun b hb => (⟨by have := hb.1; simp only [World.size_alloc] at this; omega, by have := hk5.size; omega⟩ : w.heap.size ≤ b ∧ b < w5.heap.size)))
    have HT5 := Lib.hid (fun w2 (hf : Fr w5 w2) => HTk.out _ _ L w2 (HQ5.out.fr.trans hf) (HRD.out.kept hf (fun _ _ h => h)))
    have hlc0 : ((p.code.length : Int) == 0) = false := beq_false_of_ne (by omega)
    have hlcp : 0 < p.code.length := by omega
    have hlc1 : (0 : Int) < (p.code.length : Int) := by omega
    clear hw5 hlb hk5 hrd hml htl HQ4
    have p0 := HQ5.out.b0.cell 0
    have p1 := HQ5.out.b0.cell 1
    have z0 := HQ5.out.b0.lt
    have t0 := HQ5.out.b1.cell 0
    have z1 := HQ5.out.b1.lt
    have l0 := HLB.out.cell 0
    have l1 := HLB.out.cell 1
    have zl := HLB.out.lt
    simp only [List.getElem?_toArray, List.getElem?_cons_succ, List.getElem?_cons_zero] at p0 p1 t0 l0 l1
    rw [HW5.out] at p0 p1 z0 t0 z1 l0 l1 zl
    trace "TAKES1"
    go_wp2_with fail
    trace "AT TAKES1"
    rw [← HW5.out]
    refine (HT5.out w5 (Kept.refl _ w5)).mono ?_
    rintro e w6 ⟨b6, rfl, hb6, f6⟩
    obtain rfl : b6 = true := hb6.2 ⟨HML.out, HTL.out⟩
    have HQ6 := Lib.hid (HQ5.out.keep f6)
    have HLB6 := Lib.hid (HLB.out.kept f6 (fun h => h))
    have HF6 := Lib.hid f6
    clear p0 p1 z0 t0 z1 l0 l1 zl
    clear hb6 f6
    have p0 := HQ6.out.b0.cell 0
    have p1 := HQ6.out.b0.cell 1
    have z0 := HQ6.out.b0.lt
    have t0 := HQ6.out.b1.cell 0
    have z1 := HQ6.out.b1.lt
    have l0 := HLB6.out.cell 0
    have l1 := HLB6.out.cell 1
    have zl := HLB6.out.lt
    simp only [List.getElem?_toArray, List.getElem?_cons_succ, List.getElem?_cons_zero] at p0 p1 t0 l0 l1
    by_cases hW : 12 ≤ p.wide.length
    · have hW' : (12 : Int) ≤ (p.wide.length : Int) := by omega
      go_wp2_with fail
      refine (HT5.out w6 HF6.out).mono ?_
      rintro e w7 ⟨b7, rfl, hb7, f7⟩
      obtain rfl : b7 = true := hb7.2 ⟨HML.out, HTL.out⟩
      have HF7 := Lib.hid (HQ6.out.fr.trans f7)
      have HLB7 := Lib.hid (HLB6.out.kept f7 (fun h => h))
      clear hb7 f7
      clear p0 p1 z0 t0 z1 l0 l1 zl
      have l1 := HLB7.out.cell 1
      have zl := HLB7.out.lt
      simp only [List.getElem?_toArray, List.getElem?_cons_succ, List.getElem?_cons_zero] at l1
      go_wp2
      go_ret
      exact ⟨rfl, Fr.below HF7.out⟩
    · have hW' : ¬ (12 : Int) ≤ (p.wide.length : Int) := by omega
      obtain ⟨sg, rfl⟩ : ∃ n : Nat, sg = (n : Int) := ⟨sg.toNat, by omega⟩
      obtain ⟨k, hk⟩ : ∃ k, k = aN % p.code.length := ⟨_, rfl⟩
      have hkl : k < p.code.length := by rw [hk]; exact Nat.mod_lt _ (by omega)
      have hkm : ((aN : Nat) : Int).tmod (p.code.length : Int) = (k : Int) := by rw [Int.tmod_eq_emod_of_nonneg (by omega), hk]; rfl
      have hkm2 : ((aN : Nat) : Int) % (p.code.length : Int) = (k : Int) := by rw [hk]; rfl
      obtain ⟨fr, hfr⟩ : ∃ fr, fr = fN % sg := ⟨_, rfl⟩
      have hfl : fr < sg := by rw [hfr]; exact Nat.mod_lt _ (by omega)
      have hfm : ((fN : Nat) : Int).tmod (sg : Int) = (fr : Int) := by rw [Int.tmod_eq_emod_of_nonneg (by omega), hfr]; rfl
      have hfm2 : ((fN : Nat) : Int) % (sg : Int) = (fr : Int) := by rw [hfr]; rfl
      have hsgn : ¬ (sg : Int) = 0 := by omega
      have hsg0 : ¬ sg = 0 := by omega
      have hsgb : ((sg : Int) == 0) = false := beq_false_of_ne (by omega)
      have hlcn : ¬ (p.code.length : Int) = 0 := by omega
      have ua : IntKind.i64.wrap ((aN : Nat) : Int) = ((aN : Nat) : Int) := by simp [IntKind.wrap, IntKind.bits, IntKind.signed]; omega
      have uf : IntKind.i64.wrap ((fN : Nat) : Int) = ((fN : Nat) : Int) := by simp [IntKind.wrap, IntKind.bits, IntKind.signed]; omega
      have uk : IntKind.i64.wrap (k : Int) = (k : Int) := by simp [IntKind.wrap, IntKind.bits, IntKind.signed]; omega
      have ufr : IntKind.i64.wrap (fr : Int) = (fr : Int) := by simp [IntKind.wrap, IntKind.bits, IntKind.signed]; omega
      clear hk hfr
      have hrd := HRD.out
      obtain ⟨vr, lv, e1, hsi, ⟨Al, cl, e2, hlr, hrr, hor⟩, hrows⟩ := hrd
      have hlvl : lv.length = p.code.length := by have := congrArg List.length hrows; rw [HRW.out] at this; simpa using this.symm
      simp only [Value.agg.injEq, Array.mk.injEq, List.cons.injEq, Value.int.injEq, and_true, true_and] at e1
      obtain ⟨hns, rfl⟩ := e1
      clear hns
      simp only [Value.slice.injEq] at e2
      obtain ⟨rfl, hnn, rfl⟩ := e2
      clear hnn
      rw [hlvl] at hrr hlr
      obtain ⟨x, hx⟩ : ∃ x, lv[k]? = some x := ⟨_, List.getElem?_eq_getElem (by omega)⟩
      obtain ⟨b8, o8, rfl, hR8, d0, d1, d2, d3, d4, d5, d6, d7⟩ := (hrr.kept HF6.out (fun _ _ h => h)).rw hx
      have hxo := hor x (List.mem_of_getElem? hx)
      have hb8 := cell_lt d0
      obtain ⟨_, _, _, hxb, hxa⟩ := id hxo
      have HXB := Lib.hid hxb
      obtain ⟨Ax, cx, hvb, hlx, hrx, hox⟩ := hxb
      rw [hvb] at d6
      have HX := Lib.hid hx
      have HOR := Lib.hid hor
      have HRR := Lib.hid hrr
      have HROWS := Lib.hid hrows
      have HLV := Lib.hid hlvl
      have HVB := Lib.hid hvb
      have HRX := Lib.hid hrx
      have hk0 : (0 : Int) ≤ (k : Int) := by omega
      have hk1 : (k : Int) < (p.code.length : Int) := by omega
      clear hx hor hrr hrows hlvl hxo hxa hvb hrx hox d0 d1 d2 d3 d4 d5 d7 hlr
      by_cases h6 : 6 ≤ x.r.before.length
      · have h6' : (6 : Int) ≤ (x.r.before.length : Int) := by omega
        go_wp2
        go_ret
        exact ⟨rfl, Fr.below HQ6.out.fr⟩
      · have h6' : ¬ (6 : Int) ≤ (x.r.before.length : Int) := by omega
        go_wp2
        trace "REGION 10"
        go_region_held3 (fun w' => w'.cell? ⟨w4.heap.size, 0, none⟩ = some (.int .i64 (p.wide.length : Int)) ∧ w'.cell? ⟨w.heap.size + 1, 0, none⟩ = some (.int .i64 (sg : Int))) (go_keep) (fail)
        trace "BEHIND 10"
        rename_i hHeld
        clear hHeld
        have HMB0 := Lib.hid ((Blk.new w6 74 #[.int .i64 3, .int .i64 (p.wide.length : Int), .int .i64 1, .int .i64 (fr : Int), .bool false, .int .u32 0]).drew)
        have hk7 : Fr w6 (w6.alloc (.cells #[.int .i64 3, .int .i64 (p.wide.length : Int), .int .i64 1, .int .i64 (fr : Int), .bool false, .int .u32 0] 74)).drew := ((Kept.refl _ w6).alloc _).drew
        obtain ⟨w7, hw7⟩ : ∃ w7 : World, w7 = (w6.alloc (.cells #[.int .i64 3, .int .i64 (p.wide.length : Int), .int .i64 1, .int .i64 (fr : Int), .bool false, .int .u32 0] 74)).drew := ⟨_, rfl⟩
        rw [← hw7] at HMB0 hk7
        have HW7 := Lib.hid hw7
        have HQ7 := Lib.hid (HQ6.out.keep hk7)
        have HLB7 := Lib.hid (HLB6.out.kept hk7 (fun h => h))
        have HF7 := Lib.hid (HF6.out.trans hk7)
        have hz7 : w6.heap.size < w7.heap.size := by rw [hw7]; simp
        clear hw7 hk7
        clear p0 p1 z0 t0 z1 l0 l1 zl
        have l0 := HLB7.out.cell 0
        have l1 := HLB7.out.cell 1
        have zl := HLB7.out.lt
        simp only [List.getElem?_toArray, List.getElem?_cons_succ, List.getElem?_cons_zero] at l0 l1
        have hub : IntKind.i64.wrap ((p.wide.length : Int) + 1) = (p.wide.length : Int) + 1 := by simp [IntKind.wrap, IntKind.bits, IntKind.signed]; omega
        have hsrc := HRR.out.kept HF7.out (fun _ _ h => h)
        have hone : ∀ u ∈ lv.flatMap RwV.cells, u.oneCell' = true := by
          intro u hu
          obtain ⟨y, hy, hu⟩ := List.mem_flatMap.1 hu
          obtain ⟨_, _, _, ⟨_, _, e1, _⟩, ⟨_, _, e2, _⟩⟩ := HOR.out y hy
          unfold RwV.cells at hu
          rw [e1, e2] at hu
          simp only [List.mem_cons, List.not_mem_nil, or_false] at hu
          rcases hu with rfl | rfl | rfl | rfl | rfl | rfl | rfl | rfl <;> rfl
        have HONE := Lib.hid hone
        have HSRC := Lib.hid hsrc
        have HEMP := Lib.hid (World.ownsRow_lit (base := w7.heap.size) (e := 60) (size := 8) w7 #[] 0 (Nat.le_refl _) (by simp [maxLen]) rfl)
        have HEM2 := Lib.hid (show ((w7.alloc (.cells #[.int .i64 0, .slice none 0 0] 50)).alloc (.cells #[] 60)).ownsRow w7.heap.size 60 8 (.slice (some ⟨w7.heap.size + 1, 0, none⟩) 0 0) 0 [] from by
          have := World.ownsRow_lit (base := w7.heap.size) (e := 60) (size := 8) (w7.alloc (.cells #[.int .i64 0, .slice none 0 0] 50)) #[] 0 (by simp) (by simp [maxLen]) rfl
          simpa using this)
        clear hsrc hone
        go_upto_region 11 with fail
        rw [← HW7.out]
        trace "REGION 11"
        go_cut [14] from 73 (fun s14 wc => ∃ (ob : Nat) (A9 : Option Addr) (c9 : Nat), s14 = .pointer (some ⟨ob, 0, none⟩) ∧ Hid (Blk wc ob 50 #[.int .i64 ((p.wide.length : Int) + 1), .slice A9 p.code.length c9]) ∧ Hid (wc.ownsRow w7.heap.size 60 8 (.slice A9 p.code.length c9) p.code.length (lv.flatMap RwV.cells)) ∧ Hid (Fr w7 wc) ∧ w7.heap.size ≤ ob)
        case first =>
          go_region_law (first | (refine step_app (base := w7.heap.size) (by rfl) slRwB (.tmp 86) (.tmp 88) (by rfl) (.slice (some ⟨w7.heap.size, 0, none⟩) 0 0) 0 [] (by rfl) (HEMP.out.drew_) _ (some ⟨b8, o8, none⟩) p.code.length cb (lv.flatMap RwV.cells) (by rfl) ((HSRC.out.kept (((Kept.refl (fun _ => False) w7).alloc (.cells #[] 60)).drew) (fun _ _ h => h))) HONE.out (by omega) (by unfold maxLen; omega) (by simp) ?_; intro v1 w8 hown1 hk1 hat1; have hlb8 := Blk.kept ((HLB7.out.alloc (.cells #[] 60)).drew) hk1 (by simp [Value.ownBlock]; omega); have m0 := hlb8.cell 0; have m1 := hlb8.cell 1; have mz := hlb8.lt; simp only [List.getElem?_toArray, List.getElem?_cons_succ, List.getElem?_cons_zero] at m0 m1; obtain ⟨A9, c9, rfl, _⟩ := own_reads hown1) | (refine step_app (base := w7.heap.size) (by rfl) slRwB (.tmp 86) (.tmp 88) (by rfl) (.slice (some ⟨w7.heap.size, 0, none⟩) 0 0) 0 [] (by rfl) ((World.ownsRow.alloc HEMP.out (.cells #[.int .i64 0, .slice none 0 0] 50)).drew_) _ (some ⟨b8, o8, none⟩) p.code.length cb (lv.flatMap RwV.cells) (by rfl) ((HSRC.out.kept ((((Kept.refl (fun _ => False) w7).alloc (.cells #[] 60)).alloc (.cells #[.int .i64 0, .slice none 0 0] 50)).drew) (fun _ _ h => h))) HONE.out (by omega) (by unfold maxLen; omega) (by simp; omega) ?_; intro v1 w8 hown1 hk1 hat1; have hpb := Blk.kept (show Blk (((w7.alloc (.cells #[] 60)).alloc (.cells #[.int .i64 0, .slice none 0 0] 50)).drew) (w7.heap.size + 1) 50 #[.int .i64 0, .slice none 0 0] from by have := (Blk.new (w7.alloc (.cells #[] 60)) 50 #[.int .i64 0, .slice none 0 0]).drew; simpa using this) hk1 (by simp [Value.ownBlock]); have pb0 := hpb.cell 0; have pb1 := hpb.cell 1; have pbz := hpb.lt; have pf0 := hpb.frozen 0; have pf1 := hpb.frozen 1; simp only [List.getElem?_toArray, List.getElem?_cons_succ, List.getElem?_cons_zero] at pb0 pb1; have hlb8 := Blk.kept (((HLB7.out.alloc (.cells #[] 60)).alloc (.cells #[.int .i64 0, .slice none 0 0] 50)).drew) hk1 (by simp [Value.ownBlock]; omega); have m0 := hlb8.cell 0; have m1 := hlb8.cell 1; have mz := hlb8.lt; simp only [List.getElem?_toArray, List.getElem?_cons_succ, List.getElem?_cons_zero] at m0 m1; obtain ⟨A9, c9, rfl, _⟩ := own_reads hown1) | (refine step_app (base := w7.heap.size) (by rfl) slRwB (.tmp 86) (.tmp 88) (by rfl) (.slice (some ⟨w7.heap.size + 1, 0, none⟩) 0 0) 0 [] (by rfl) (HEM2.out.drew_) _ (some ⟨b8, o8, none⟩) p.code.length cb (lv.flatMap RwV.cells) (by rfl) ((HSRC.out.kept ((((Kept.refl (fun _ => False) w7).alloc (.cells #[.int .i64 0, .slice none 0 0] 50)).alloc (.cells #[] 60)).drew) (fun _ _ h => h))) HONE.out (by omega) (by unfold maxLen; omega) (by simp; omega) ?_; intro v1 w8 hown1 hk1 hat1; have hpb := Blk.kept (show Blk (((w7.alloc (.cells #[.int .i64 0, .slice none 0 0] 50)).alloc (.cells #[] 60)).drew) w7.heap.size 50 #[.int .i64 0, .slice none 0 0] from ((Blk.new w7 _ _).alloc _).drew) hk1 (by simp [Value.ownBlock]); have pb0 := hpb.cell 0; have pb1 := hpb.cell 1; have pbz := hpb.lt; have pf0 := hpb.frozen 0; have pf1 := hpb.frozen 1; simp only [List.getElem?_toArray, List.getElem?_cons_succ, List.getElem?_cons_zero] at pb0 pb1; have hlb8 := Blk.kept (((HLB7.out.alloc (.cells #[.int .i64 0, .slice none 0 0] 50)).alloc (.cells #[] 60)).drew) hk1 (by simp [Value.ownBlock]; omega); have m0 := hlb8.cell 0; have m1 := hlb8.cell 1; have mz := hlb8.lt; simp only [List.getElem?_toArray, List.getElem?_cons_succ, List.getElem?_cons_zero] at m0 m1; obtain ⟨A9, c9, rfl, _⟩ := own_reads hown1))
          all_goals
            go_wp2
            go_meet
            first
              | refine ⟨w7.heap.size + 1, A9, c9, rfl, Lib.hid ?_, Lib.hid ?_, Lib.hid ?_, by omega⟩
              | refine ⟨w7.heap.size, A9, c9, rfl, Lib.hid ?_, Lib.hid ?_, Lib.hid ?_, by omega⟩
              | refine ⟨w8.heap.size, A9, c9, rfl, Lib.hid (Blk.new w8 _ _), Lib.hid ?_, Lib.hid ?_, ?_⟩
            all_goals
              first
                | (have h1 := (hpb.set_ 0 (.int .i64 ((p.wide.length : Int) + 1))).set_ 1 (.slice A9 p.code.length c9)
                   exact h1)
                | (have h1 := (hpb.set_ 0 (.int .i64 ((p.wide.length : Int) + 1))).set_ 1 (.slice A9 p.code.length c9)
                   simpa using h1)
                | (have hown2 := hown1
                   simp only [Nat.zero_add, List.nil_append] at hown2
                   first
                     | exact World.ownsRow.alloc hown2 _
                     | exact own_kept hown2 (((Kept.refl (fun b => b = w7.heap.size + 1) w8).setCell (p := ⟨w7.heap.size + 1, 0, none⟩) (fun _ => rfl) _).setCell (p := ⟨w7.heap.size + 1, 1, none⟩) (fun _ => rfl) _) (fun g hg e => own_blk_ne hown2 hpb (by decide) (e ▸ hg))
                     | exact own_kept hown2 (((Kept.refl (fun b => b = w7.heap.size) w8).setCell (p := ⟨w7.heap.size, 0, none⟩) (fun _ => rfl) _).setCell (p := ⟨w7.heap.size, 1, none⟩) (fun _ => rfl) _) (fun g hg e => own_blk_ne hown2 hpb (by decide) (e ▸ hg)))
                | exact ((((((Kept.refl (fun _ => False) w7).alloc _).alloc _).drew).then hk1 (fun i hi e => by simp [Value.ownBlock] at e; omega)).setCell (fun e => by simp only at e; omega) _).setCell (fun e => by simp only at e; omega) _
                | exact (((((Kept.refl (fun _ => False) w7).alloc _).drew).then hk1 (fun i hi e => by simp [Value.ownBlock] at e; omega))).alloc _
                | (have := hk1.size; simp at this; omega)
        case rest =>
          trace "BEHIND 11"
          rename World => wA
          obtain ⟨ob, A9, c9, rfl, HPB, HOW, HFC, hob⟩ := hcut
          obtain ⟨g9, c9', cur9, e9, hg9, hgb9⟩ := own_blk HOW.out lc1
          simp only [Value.slice.injEq, true_and] at e9
          obtain ⟨rfl, rfl⟩ := e9
          have HG9 := Lib.hid hg9
          clear hg9 l0 l1 zl
          have HQc := Lib.hid (HQ7.out.keep HFC.out)
          have HLBc := Lib.hid (HLB7.out.kept HFC.out (fun h => h))
          have HMBc := Lib.hid (HMB0.out.kept HFC.out (fun h => h))
          have HFc := Lib.hid (HF7.out.trans HFC.out)
          obtain ⟨b8', o8', e8, _, _, _, _, _, _, _, dd6, _⟩ := (HRR.out.kept HFc.out (fun _ _ h => h)).rw HX.out
          simp only [Option.some.injEq, Addr.mk.injEq, and_true] at e8
          obtain ⟨rfl, rfl⟩ := e8
          rw [HVB.out] at dd6
          have hb8c := cell_lt dd6
          have hrow9 := own_reads HOW.out
          obtain ⟨A9', c9'', e9, _, hr9⟩ := hrow9
          simp only [Value.slice.injEq, true_and] at e9
          obtain ⟨rfl, rfl⟩ := e9
          have HR9 := Lib.hid hr9
          clear hr9
          have n0 := HPB.out.cell 0
          have n1 := HPB.out.cell 1
          have nz := HPB.out.lt
          have l0 := HLBc.out.cell 0
          have l1 := HLBc.out.cell 1
          have zl := HLBc.out.lt
          have k0 := HMBc.out.cell 0
          have k1 := HMBc.out.cell 1
          have k2 := HMBc.out.cell 2
          have k3 := HMBc.out.cell 3
          have k4 := HMBc.out.cell 4
          have k5 := HMBc.out.cell 5
          have zm := HMBc.out.lt
          have z9 := HG9.out.lt
          simp only [List.getElem?_toArray, List.getElem?_cons_succ, List.getElem?_cons_zero] at n0 n1 l0 l1 k0 k1 k2 k3 k4 k5
          have HSRX := Lib.hid (HRX.out.kept HFc.out (fun _ _ h => h))
          have HONX := Lib.hid (show ∀ u ∈ x.r.before.flatMap Mv.cells, u.oneCell' = true from by
            intro u hu
            obtain ⟨y, _, hu⟩ := List.mem_flatMap.1 hu
            unfold Mv.cells at hu
            simp only [List.mem_cons, List.not_mem_nil, or_false] at hu
            rcases hu with rfl | rfl | rfl | rfl | rfl | rfl <;> rfl)
          have HLIT := Lib.hid (World.ownsRow_lit (base := wA.heap.size) (e := 74) (size := 6) wA #[.int .i64 3, .int .i64 (p.wide.length : Int), .int .i64 1, .int .i64 (fr : Int), .bool false, .int .u32 0] 1 (Nat.le_refl _) (by simp [maxLen]) rfl)
          go_upto_region 12 with fail
          trace "REGION 12"
          go_cut [14] from 91 (fun s14 wd => ∃ (Am : Option Addr) (cm : Nat), s14 = .pointer (some ⟨ob, 0, none⟩) ∧ Hid (Blk wd ob 50 #[.int .i64 ((p.wide.length : Int) + 1), .slice (some ⟨g9, 0, none⟩) p.code.length c9]) ∧ Hid (wd.ownsRow w7.heap.size 60 8 (.slice (some ⟨g9, 0, none⟩) p.code.length c9) p.code.length ((lv.flatMap RwV.cells).set (k * 8 + 6) (.slice Am (1 + x.r.before.length) cm))) ∧ Hid (wd.ownsRow wA.heap.size 74 6 (.slice Am (1 + x.r.before.length) cm) (1 + x.r.before.length) (#[.int .i64 3, .int .i64 (p.wide.length : Int), .int .i64 1, .int .i64 (fr : Int), .bool false, .int .u32 0].toList ++ x.r.before.flatMap Mv.cells)) ∧ Hid (Fr w7 wd))
          case first =>
            go_region_law ((refine step_app (base := wA.heap.size) (by rfl) slMv (.tmp 95) (.tmp 101) (by rfl) (.slice (some ⟨wA.heap.size, 0, none⟩) 1 1) 1 #[.int .i64 3, .int .i64 (p.wide.length : Int), .int .i64 1, .int .i64 (fr : Int), .bool false, .int .u32 0].toList (by rfl) (HLIT.out.drew_) _ Ax x.r.before.length cx (x.r.before.flatMap Mv.cells) (by rfl) (HSRX.out.kept (((Kept.refl (fun _ => False) wA).alloc (.cells #[.int .i64 3, .int .i64 (p.wide.length : Int), .int .i64 1, .int .i64 (fr : Int), .bool false, .int .u32 0] 74)).drew) (fun _ _ h => h)) HONX.out (by omega) (by unfold maxLen; omega) (by simp) ?_; intro v1 w8 hown1 hk1 hat1; have hfk := ((Kept.refl (fun _ => False) wA).alloc (.cells #[.int .i64 3, .int .i64 (p.wide.length : Int), .int .i64 1, .int .i64 (fr : Int), .bool false, .int .u32 0] 74)).drew; have hfk2 : Fr wA w8 := hfk.then hk1 (fun i hi e => by simp [Value.ownBlock] at e; omega); have hpb8 := HPB.out.kept hfk2 (fun h => h); have hg8 := HG9.out.kept hfk2 (fun h => h); have how8 := own_kept HOW.out hfk2 (fun _ _ h => h); have hm1 := hpb8.cell 1; have hm0 := hpb8.cell 0; have hmz := hpb8.lt; have hl8 := HLBc.out.kept hfk2 (fun h => h); have j0 := hl8.cell 0; have j1 := hl8.cell 1; have jz := hl8.lt; obtain ⟨_, _, ea, _, _, _, _, _, _, _, q6, _⟩ := (HR9.out.kept hfk2 (fun _ _ h => h)).rw HX.out; simp only [Option.some.injEq, Addr.mk.injEq, and_true] at ea; obtain ⟨rfl, rfl⟩ := ea; have q6z := cell_lt q6; have q6' := q6; simp only [Nat.zero_add] at q6'; have qf := hg8.frozen (k * 8 + 6); have qf' := hg8.frozen (0 + k * 8 + 6); simp only [List.getElem?_toArray, List.getElem?_cons_succ, List.getElem?_cons_zero] at hm0 hm1 j0 j1; obtain ⟨Am, cm, rfl, _⟩ := own_reads hown1))
            all_goals
              go_wp2
              go_meet
              refine ⟨Am, cm, rfl, Lib.hid ?_, Lib.hid ?_, Lib.hid ?_, Lib.hid ?_⟩
              · exact hpb8.far (fun e => by simp only at e; exact (HPB.out.ne_ HG9.out (by decide)) e) _
              · have := (World.ownsRow.stored how8 (k * 8 + 6) (.slice Am (1 + x.r.before.length) cm)).1
                simpa using this
              · exact own_kept hown1 ((Kept.refl (fun b => b = g9) w8).setCell (p := ⟨g9, _, none⟩) (fun _ => rfl) _) (fun g hg e => own_blk_ne hown1 hg8 (by decide) (e ▸ hg))
              · exact (HFC.out.trans hfk2).setCell (fun e => by simp only at e; omega) _
          case rest =>
            trace "BEHIND 12"
            rename World => wD
            obtain ⟨Am, cm, rfl, HPBd, HOWd, HOMd, HFD⟩ := hcut
            have HQd := Lib.hid (HQ7.out.keep HFD.out)
            have HRK := Lib.hid (show rwAt L.rows k = x.r from by
              rw [HROWS.out]; unfold rwAt; simp [List.getD, HX.out])
            have HM1 := Lib.hid (idle_may (p := p) (sg := (sg : Int)) (s := L.slots) (rows := L.rows) (k := k) (n := (fr : Int)) HML.out (by rw [HRW.out]; omega) (by rw [HSL.out]; omega) (by rw [HRK.out]; omega) ⟨by omega, by omega⟩)
            have HM2 := Lib.hid (idle_taken (p := p) (sg := (sg : Int)) (s := L.slots) (rows := L.rows) (k := k) (n := (fr : Int)) HML.out HTL.out (by rw [HRW.out]; omega))
            rw [HSL.out] at HM1 HM2
            have HNL := Lib.hid (show RdPd wD (fun _ => True) (.agg #[.int .i64 ((p.wide.length : Int) + 1), .slice (some ⟨g9, 0, none⟩) p.code.length c9]) ⟨(p.wide.length : Int) + 1, moreAt L.rows k (idleMv (p.wide.length : Int) (fr : Int))⟩ from by
              have hset : (lv.flatMap RwV.cells).set (k * 8 + 6) (.slice Am (1 + x.r.before.length) cm) = (lv.set k ⟨{ x.r with before := idleMv (p.wide.length : Int) (fr : Int) :: x.r.before }, .slice Am (1 + x.r.before.length) cm, x.va⟩).flatMap RwV.cells := flat_set RwV.len HX.out (by omega) (by rfl)
              obtain ⟨_, _, ea, hla, hra⟩ := own_reads HOWd.out
              simp only [Value.slice.injEq, true_and] at ea
              obtain ⟨rfl, rfl⟩ := ea
              rw [hset] at hra
              obtain ⟨_, _, eb, hlb, hrb⟩ := own_reads HOMd.out
              simp only [Value.slice.injEq, true_and] at eb
              obtain ⟨rfl, rfl⟩ := eb
              have hxo := HOR.out x (List.mem_of_getElem? HX.out)
              have hf5 : Fr w5 wD := HF7.out.trans HFD.out
              have hl2 : (lv.set k ⟨{ x.r with before := idleMv (p.wide.length : Int) (fr : Int) :: x.r.before }, .slice Am (1 + x.r.before.length) cm, x.va⟩).length = p.code.length := by rw [List.length_set, HLV.out]
              refine ⟨_, lv.set k ⟨{ x.r with before := idleMv (p.wide.length : Int) (fr : Int) :: x.r.before }, .slice Am (1 + x.r.before.length) cm, x.va⟩, rfl, ?_, ⟨some ⟨g9, 0, none⟩, c9, ?_, ?_, ?_, ?_⟩, ?_⟩
              · exact ⟨by simp only; omega, by simp only; omega⟩
              · rw [hl2]
              · rw [hl2]; exact hla
              · rw [hl2]; exact hra.more (fun _ _ => trivial)
              · intro y hy
                rcases List.mem_or_eq_of_mem_set hy with h | rfl
                · exact ((HOR.out y h).kept hf5 (fun _ _ h => h)).more (fun _ _ => trivial)
                · refine ⟨hxo.1, hxo.2.1, hxo.2.2.1, ⟨Am, cm, ?_, ?_, ?_, ?_⟩, (hxo.2.2.2.2.kept hf5 (fun _ _ h => h)).more (fun _ _ => trivial)⟩
                  · simp [Nat.add_comm]
                  · simp only [List.length_cons]; omega
                  · have h3 := hrb.more (R' := fun _ => True) (fun _ _ => trivial)
                    rw [Nat.add_comm] at h3
                    exact h3
                  · intro m hm
                    rcases List.mem_cons.1 hm with rfl | hm
                    · refine ⟨⟨?_, ?_⟩, ⟨?_, ?_⟩, ?_⟩ <;> simp only [idleMv, inI] <;> omega
                    · obtain ⟨_, _, _, _, _, hok⟩ := hxo.2.2.2.1
                      exact hok m hm
              · show moreAt L.rows k _ = _
                rw [List.map_set, ← HROWS.out]
                unfold moreAt
                rw [HRK.out])
            have p0 := HQd.out.b0.cell 0
            have p1 := HQd.out.b0.cell 1
            have z0 := HQd.out.b0.lt
            have t0 := HQd.out.b1.cell 0
            have z1 := HQd.out.b1.lt
            have n0 := HPBd.out.cell 0
            have n1 := HPBd.out.cell 1
            have nz := HPBd.out.lt
            simp only [List.getElem?_toArray, List.getElem?_cons_succ, List.getElem?_cons_zero] at p0 p1 t0 n0 n1
            go_wp2_with fail
            trace "TAKES 3"
            refine (HTk.out _ _ _ wD HQd.out.fr HNL.out).mono ?_
            rintro e w9 ⟨b9, rfl, hb9, f9⟩
            obtain rfl : b9 = true := hb9.2 ⟨HM1.out, HM2.out⟩
            have HF9 := Lib.hid (HQd.out.fr.trans f9)
            clear hb9 f9
            go_wp2
            go_ret
            exact ⟨rfl, Fr.below HF9.out⟩
set_option maxRecDepth 100000 in
theorem lifted (os : Os) (started : os.Started) (H : Type) (enc : TypeId × Value → H) :
    ReturnsInHanded {} Try.checked os 13 .any (Rows.checkIdleSpec.pre6 enc Try.prog Try.f13 Rows.checkIdleRow.domain false) (Rows.checkIdleSpec.post enc Try.prog Try.f13 false true false false) := by
  refine returnsInHanded_of_change (C := Try.checked) own started (by kernel_rfl) Try.func13
    (ChangeSpec.witness6 (enc := enc) (C := Try.checked) false ⟨#[], #[.agg #[.slice none 0 0, .slice none 0 0], .agg #[.int .i64 0], .int .u8 0, .int .u8 0], []⟩ 8 (by kernel_rfl) (by kernel_rfl) (by kernel_rfl) (by kernel_rfl)) ?_
  intro W base args ds gs before hval0 hW _ _
  have hval : ∀ (j : Nat) t v, Try.f13.params[j]? = some t → args[j]? = some v → Value.okWide Try.prog W .any base t v := hval0
  have hlt : ∀ x ∈ before, x.block < W.heap.size := fun x hx => hW.lt x hx
  have hW' := hW
  obtain ⟨p, q, hA0, hV, rfl, _, _⟩ := hW
  have hA : DataW.TrodAll enc Try.prog W 0 (fun _ => true) true Try.f13.params.toList args.toList ds p := hA0
  rw [Try.params13] at hA hval
  obtain ⟨v0, vs0, d0, ds0, p0, q0, hargs, rfl, rfl, h0, r0⟩ := trodAll_cons hA
  obtain ⟨v1, vs1, d1, ds1, p1, q1, rfl, rfl, rfl, h1, r1⟩ := trodAll_cons r0
  obtain ⟨v2, vs2, d2, ds2, p2, q2, rfl, rfl, rfl, h2, r2⟩ := trodAll_cons r1
  obtain ⟨v3, vs3, d3, ds3, p3, q3, rfl, rfl, rfl, h3, r3⟩ := trodAll_cons r2
  obtain ⟨rfl, rfl, rfl⟩ := trodAll_nil r3
  obtain rfl : args = #[v0, v1, v2, v3] := by cases args; simp_all
  have hg : gs = [] := (trodVars_none hV).1
  subst hg
  suffices hwalk : Calls Try.prog 13 #[v0, v1, v2, v3] W fun e W' => e = .returned (.bool true) ∧ Below W.heap.size W W' by
    refine hwalk.mono fun e W' ⟨he, hb⟩ => ?_
    subst he
    exact law_post (by kernel_rfl) rfl rfl hW' rfl hb
  obtain ⟨p, hp⟩ := open_pg (R := fun _ => True) (hval 0 25 v0 rfl rfl) h0 (fun _ _ => trivial)
  obtain ⟨sg, rfl⟩ := open_tg (hval 1 47 v1 rfl rfl) h1
  obtain ⟨a1, rfl, rfl, rfl, wa⟩ := open_int Try.underlying5 (hval 2 5 v2 rfl rfl) h2
  obtain ⟨a2, rfl, rfl, rfl, wb⟩ := open_int Try.underlying5 (hval 3 5 v3 rfl rfl) h3
  have q1 : 0 ≤ a1 ∧ a1 ≤ 255 := by simpa [Lit.wf, IntKind.min, IntKind.max, IntKind.bits, IntKind.signed] using wa
  have q2 : 0 ≤ a2 ∧ a2 ≤ 255 := by simpa [Lit.wf, IntKind.min, IntKind.max, IntKind.bits, IntKind.signed] using wb
  obtain ⟨n1, rfl⟩ := Int.eq_ofNat_of_zero_le q1.1
  obtain ⟨n2, rfl⟩ := Int.eq_ofNat_of_zero_le q2.1
  exact walk _ v0 p sg n1 n2 W hp (by omega) (by omega)

theorem over : Rows.checkIdleRow.holds Try.pinned (OpenSpec.ofChange Rows.checkIdleSpec) :=
  OpenClaim.holds_of_wide 13 Try.f13 rfl rfl rfl rfl rfl rfl rfl ⟨rfl, rfl, rfl, rfl, rfl⟩ rfl rfl rfl rfl rfl (by kernel_rfl) Try.func13 (by kernel_rfl)
    (of_decide_eq_true (by kernel_rfl)) (by unfold Func.isWrapper; first | (rw [if_pos (by decide +kernel)]; kernel_rfl) | (rw [if_neg (by decide +kernel)]; exact ⟨rfl, rfl⟩))
    (fun os started H enc _ => lifted os started H enc)

/-- the statement -/
theorem proved : Rows.CheckIdleSaid := over
#print axioms proved
end Go.Proofs.Ytodmkjeankbieab.checkIdle
