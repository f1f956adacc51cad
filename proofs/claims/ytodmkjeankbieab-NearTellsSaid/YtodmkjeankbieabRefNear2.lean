/- The walk of the reference of chapter 5: Of. -/
import Derived.Test.YtodmkjeankbieabRefNear
namespace Go.Proofs.Ytodmkjeankbieab
open Go.RowKit Go.Sort

def isTo (x : Bool) (f : Nat → Bool) (k : Nat) : Bool := x || (List.range k).any f
theorem isTo_s {x : Bool} {f : Nat → Bool} {k : Nat} : isTo x f (k + 1) = (isTo x f k || f k) := by
  unfold isTo
  rw [List.range_succ, List.any_append]
  simp [Bool.or_assoc]
theorem isTo_true {x : Bool} {f : Nat → Bool} {k n : Nat} (h : isTo x f k = true) (hk : k ≤ n) : isTo x f n = true := by
  unfold isTo at *
  rw [Bool.or_eq_true, List.any_eq_true] at *
  rcases h with h | ⟨y, hy, h⟩
  · exact Or.inl h
  · exact Or.inr ⟨y, List.mem_range.2 (Nat.lt_of_lt_of_le (List.mem_range.1 hy) hk), h⟩
noncomputable def nearF (code : List In) (a b k : Nat) : Bool := nearAt code (needB code) k a b || nearAt code (needB code) k b a
theorem near_isTo {code : List In} {a b : Nat} : nearB code a b = (decide (a ≠ b) && isTo (needB code 0 a && needB code 0 b) (nearF code a b) code.length) := rfl

theorem bne_dec {a b : Nat} : ((a : Int) != (b : Int)) = decide (a ≠ b) := by
  by_cases h : a = b
  · simp [h]
  · simp [h]; omega

structure Row1 (wr : World) (gl og g0 bb ob W c : Nat) (m : Nat → Bool) : Prop where
  ptr : wr.cell? ⟨gl, og, none⟩ = some (.slice (some ⟨bb, ob, none⟩) W c)
  cell : ∀ j, j < W → wr.cell? ⟨bb, ob + j, none⟩ = some (.bool (m j))
  l1 : gl < g0
  l2 : bb < g0
  h1 : gl < wr.heap.size
  h2 : bb < wr.heap.size
theorem Row1.keep {wr w2 : World} {gl og g0 bb ob W c : Nat} {m : Nat → Bool} (h : Row1 wr gl og g0 bb ob W c m) {S : Nat → Prop} (hk : Kept S wr w2) (hS : ∀ k, S k → g0 ≤ k) : Row1 w2 gl og g0 bb ob W c m :=
  ⟨(hk.cell (p := ⟨gl, og, none⟩) h.h1 (fun hs => by have := hS _ hs; have := h.l1; simp only at *; omega)).trans h.ptr, fun j hj => (hk.cell (p := ⟨bb, ob + j, none⟩) h.h2 (fun hs => by have := hS _ hs; have := h.l2; simp only at *; omega)).trans (h.cell j hj), h.l1, h.l2,
    Nat.lt_of_lt_of_le h.h1 hk.size, Nat.lt_of_lt_of_le h.h2 hk.size⟩

set_option maxHeartbeats 8000000 in
set_option maxRecDepth 100000 in
theorem refNearOf_any (R : Nat → Prop) (v : Value) (p : Pg) (w : World) (h : RdPg w R v p) (hmay : mayB p = true) :
    Calls Try.prog 22 #[v] w fun e w' => ∃ v, e = .returned v ∧ RdM w' (fun b => w.heap.size ≤ b) v (nearM p) ∧ Fr w w' := by
  have H := Lib.hid h
  obtain ⟨vw, vc, rfl, ⟨A, c, rfl, hl, hr⟩, ⟨A', c', rfl, hl', hr', ho'⟩⟩ := h
  clear hr hr' ho' hl hl'
  obtain ⟨l1, l2, l3, l4⟩ := mayB_len hmay
  have HMay := Lib.hid hmay
  have hmk := run_make_bools p.wide.length (by omega)
  have B0 := Lib.hid (Blk.new w 25 #[.slice A p.wide.length c, .slice A' p.code.length c'])
  have F0 := Lib.hid (show Fr w (w.alloc (.cells #[.slice A p.wide.length c, .slice A' p.code.length c'] 25)) from (Kept.refl _ w).alloc _)
  clear hmay
  go_enter Try.func22, Try.ntmps22
  go_wp2_with fail
  refine (refLiveOf_any R _ p _ (H.out.kept F0.out (fun _ _ h => h)) HMay.out).mono ?_
  rintro e w1 ⟨vn, rfl, hnd, f1⟩
  have HB1 := Lib.hid (B0.out.kept f1 (fun h => h))
  have HF1 := Lib.hid (F0.out.trans f1)
  have hs1 : w.heap.size ≤ w1.heap.size := (F0.out.trans f1).size
  have hnd2 := hnd.old
  obtain ⟨An, cn, rfl⟩ := hnd.val
  have hlen : (needM p).length = p.code.length := by unfold needM; simp
  rw [hlen] at hnd2
  rw [hlen]
  obtain ⟨gl, og, cg, u, hv, hR0, hl0, hcell, hbo⟩ := hnd2.row (k := 0) (row := (List.range p.wide.length).map (needB p.code 0)) (matL_at (M := needB p.code) (by omega))
  obtain ⟨A0, cz, ru, _, hrz⟩ := hbo
  simp only [Value.slice.injEq] at hv
  obtain ⟨hv1, hv2, hv3⟩ := hv
  subst hv1
  rw [show ((List.range p.wide.length).map (needB p.code 0)).length = p.wide.length by simp] at ru hrz
  obtain ⟨bb, ob, rfl, hRb, hcb⟩ := hrz.2 (by omega)
  subst ru
  have hcb' : ∀ j, j < p.wide.length → w1.cell? ⟨bb, ob + j, none⟩ = some (.bool (needB p.code 0 j)) := fun j hj => hcb j _ (by simp [List.getElem?_range hj])
  have HR0 := Lib.hid (show Row1 w1 gl og w1.heap.size bb ob p.wide.length cz (needB p.code 0) from ⟨by simpa using hcell, hcb', hR0.2, hRb.2, hl0, cell_lt (hcb' 0 (by omega))⟩)
  have HGV := Lib.hid (fun (w2 : World) (hf : Fr w1 w2) at_ a b (ht : at_ < p.code.length) (ha : a < p.wide.length) (hb : b < p.wide.length) =>
    refGives5_any R _ _ _ p at_ a b w2 (H.out.kept (HF1.out.trans hf) (fun _ _ h => h)) (hnd2.kept hf (fun _ _ h => h)) HMay.out ht ha hb)
  clear hcell hcb hcb' hrz hR0 hRb hl0 hnd hnd2 hv2 hv3 f1 B0 F0 hlen
  go_wp2
  go_loopw [4, 5] (fun v i wr => ∃ (a : Nat) (vs : List Value), a ≤ p.wide.length ∧ i = .int .i64 a ∧ Hid (RowsOwn w1 wr v p.wide.length a (nearB p.code) vs) ∧ Hid (Fr w1 wr)) (fun _ i _ => p.wide.length - (intOf i).toNat)
  case atStart => exact ⟨0, [], Nat.zero_le _, rfl, RowsOwn.nil _ _ _ _, Kept.refl _ w1⟩
  case round =>
    obtain ⟨a, vs, ha, rfl, hro, hf⟩ := hrel
    have hB := HB1.out.kept hf.out (fun h => h)
    have q0 := hB.cell 0
    have z0 := hB.lt
    simp only [List.getElem?_toArray, List.getElem?_cons_succ, List.getElem?_cons_zero] at q0
    by_cases hal : a < p.wide.length
    · obtain ⟨wB, rfl⟩ : ∃ wB : World, wB = wr := ⟨_, rfl⟩
      have HB0 : Hid (Blk (wB.alloc (.cells (mkB p.wide.length fun _ => false) 4)) wB.heap.size 4 (mkB p.wide.length (rowTo (nearB p.code a) 0))) := by
        have := Blk.new wB 4 (mkB p.wide.length fun _ => false)
        rwa [mkB_congr (g := rowTo (nearB p.code a) 0) (fun t _ => by simp [rowTo])] at this
      have ha0 : (0 : Int) ≤ (a : Int) := Int.natCast_nonneg _
      have ha1 : (a : Int) < (p.wide.length : Int) := by omega
      clear hB
      go_wp2
      go_loopw [7] (fun i wr => ∃ b : Nat, b ≤ p.wide.length ∧ i = .int .i64 b ∧ Hid (Blk wr wB.heap.size 4 (mkB p.wide.length (rowTo (nearB p.code a) b)) ∧ Fr wB wr)) (fun i _ => p.wide.length - (intOf i).toNat)
      case atStart => exact ⟨0, Nat.zero_le _, rfl, ⟨HB0.out, (Kept.refl _ wB).alloc _⟩⟩
      case round =>
        obtain ⟨b, hb, rfl, hx⟩ := hrel
        clear HB0 q0 z0
        have HF := Lib.hid (hf.out.trans hx.out.2)
        have HBp := Lib.hid (HB1.out.kept HF.out (fun h => h))
        have HRw := Lib.hid (HR0.out.keep HF.out (fun k hk => hk.elim))
        have q0 := HBp.out.cell 0
        have q1 := HBp.out.cell 1
        have zp := HBp.out.lt
        simp only [List.getElem?_toArray, List.getElem?_cons_succ, List.getElem?_cons_zero] at q0 q1
        by_cases hbl : b < p.wide.length
        · have g0' := HRw.out.ptr
          have xa := HRw.out.cell a hal
          have xb := HRw.out.cell b hbl
          have zg := HRw.out.h1
          have zb := HRw.out.h2
          have hb0 : (0 : Int) ≤ (b : Int) := Int.natCast_nonneg _
          have hb1 : (b : Int) < (p.wide.length : Int) := by omega
          obtain ⟨wC, rfl⟩ : ∃ wC : World, wC = wr := ⟨_, rfl⟩
          have HNB := Lib.hid (near_isTo (code := p.code) (a := a) (b := b))
          have HAB := Lib.hid (fun k (hk : k < p.code.length) w2 (hf2 : Fr w1 w2) => HGV.out w2 hf2 k a b hk hal hbl)
          have HBA := Lib.hid (fun k (hk : k < p.code.length) w2 (hf2 : Fr w1 w2) => HGV.out w2 hf2 k b a hk hbl hal)
          have HNF : Hid (∀ k, nearF p.code a b k = (nearAt p.code (needB p.code) k a b || nearAt p.code (needB p.code) k b a)) := fun _ => rfl
          obtain ⟨x0, hx0⟩ : ∃ x0, x0 = (needB p.code 0 a && needB p.code 0 b) := ⟨_, rfl⟩
          rw [← hx0] at HNB
          have HX0 := Lib.hid hx0
          clear hx0
          generalize needB p.code 0 a = ya at *
          generalize needB p.code 0 b = yb at *
          generalize nearF p.code a b = nf at *
          have HC := Lib.hid hx.out.1
          have zw := hx.out.1.lt
          have HFB := Lib.hid hx.out.2
          clear hx
          have hcs : (ya = true ∧ yb = true) ∨ (ya = true ∧ yb = false) ∨ ya = false := by cases ya <;> cases yb <;> simp
          rcases hcs with ⟨rfl, rfl⟩ | ⟨rfl, rfl⟩ | rfl
          all_goals
            go_wp2
            have F0 := Lib.hid (Kept.refl (fun _ => False) wC)
            go_loopw [8, 9] (fun s i wr => ∃ k : Nat, k ≤ p.code.length ∧ i = .int .i64 k ∧ s = .bool (isTo x0 nf k) ∧ Hid (Fr wC wr)) (fun _ i _ => p.code.length - (intOf i).toNat)
            case atStart => exact ⟨0, Nat.zero_le _, rfl, by rw [HX0.out]; rfl, F0⟩
            case round =>
              obtain ⟨k, hk, rfl, rfl, hf3⟩ := hrel
              have HFt := Lib.hid (HF.out.trans hf3.out)
              have hB := HB1.out.kept HFt.out (fun h => h)
              have q0 := hB.cell 0
              have q1 := hB.cell 1
              have zb := hB.lt
              simp only [List.getElem?_toArray, List.getElem?_cons_succ, List.getElem?_cons_zero] at q0 q1
              have hC := HC.out.kept hf3.out (fun h => h)
              have r0 := hC.bcell hbl
              have r1 := hC.frozen b
              have zC := hC.lt
              clear hB hC
              have HEX : Hid (∀ (y : Bool), y = nearB p.code a b → Blk (wr.setCell ⟨wB.heap.size, b, none⟩ (.bool y)) wB.heap.size 4 (mkB p.wide.length (rowTo (nearB p.code a) (b + 1))) ∧ Fr wB (wr.setCell ⟨wB.heap.size, b, none⟩ (.bool y))) := by
                intro y e
                subst e
                have hC := HC.out.kept hf3.out (fun h => h)
                refine ⟨?_, (HFB.out.trans hf3.out).setCell (p := ⟨wB.heap.size, b, none⟩) (fun h => by simp at h) _⟩
                have := hC.bset b (nearB p.code a b)
                rwa [mkB_congr (fun s _ => rowTo_s)] at this
              by_cases hkl : k < p.code.length
              · have hkd : decide ((k : Int) < (p.code.length : Int)) = true := decide_eq_true (by omega)
                have HA := Lib.hid (HAB.out k hkl)
                have HB := Lib.hid (HBA.out k hkl)
                have HS := Lib.hid (isTo_s (x := x0) (f := nf) (k := k))
                have HT : Hid (isTo x0 nf k = true → isTo x0 nf p.code.length = true) := fun h => isTo_true h hk
                rw [HNF.out] at HS
                generalize nearAt p.code (needB p.code) k a b = ga at *
                generalize nearAt p.code (needB p.code) k b a = gb at *
                rcases Bool.eq_false_or_eq_true (isTo x0 nf k) with hi | hi
                · rw [hi]
                  have HX := Lib.hid (HEX.out ((a : Int) != (b : Int)) (by rw [HNB.out, HT.out hi, bne_dec]; simp))
                  clear HS HT HEX HNB
                  go_wp2
                  go_roundw
                  case rel => exact ⟨b + 1, by omega, by go_num, HX⟩
                  case measure => simp [intOf]; omega
                · rw [hi]
                  rw [hi] at HS
                  clear HT HEX HNB
                  go_wp2_with fail
                  refine (HA.out _ HFt.out).mono ?_
                  rintro e w2 ⟨rfl, f2⟩
                  have HF2 := Lib.hid (HFt.out.trans f2)
                  have HB2 := Lib.hid (HB1.out.kept HF2.out (fun h => h))
                  have q0 := HB2.out.cell 0
                  have q1 := HB2.out.cell 1
                  have zb := HB2.out.lt
                  simp only [List.getElem?_toArray, List.getElem?_cons_succ, List.getElem?_cons_zero] at q0 q1
                  have HF3 := Lib.hid (hf3.out.trans f2)
                  cases ga with
                  | true =>
                    go_wp2
                    go_roundw
                    case rel => exact ⟨k + 1, by omega, by go_num, by rw [HS.out]; rfl, HF3⟩
                    case measure => simp [intOf]; omega
                  | false =>
                    go_wp2_with fail
                    refine (HB.out _ HF2.out).mono ?_
                    rintro e w3 ⟨rfl, f3⟩
                    have HF4 := Lib.hid (HF3.out.trans f3)
                    go_wp2
                    go_roundw
                    case rel => exact ⟨k + 1, by omega, by go_num, by rw [HS.out]; simp, HF4⟩
                    case measure => simp [intOf]; omega
              · obtain rfl : k = p.code.length := by omega
                have hkd : decide ((p.code.length : Int) < (p.code.length : Int)) = false := decide_eq_false (by omega)
                rcases Bool.eq_false_or_eq_true (isTo x0 nf p.code.length) with hi | hi
                · rw [hi]
                  have HX := Lib.hid (HEX.out ((a : Int) != (b : Int)) (by rw [HNB.out, hi, bne_dec]; simp))
                  clear HEX HNB
                  go_wp2
                  go_roundw
                  case rel => exact ⟨b + 1, by omega, by go_num, HX⟩
                  case measure => simp [intOf]; omega
                · rw [hi]
                  have HX := Lib.hid (HEX.out false (by rw [HNB.out, hi]; simp))
                  clear HEX HNB
                  go_wp2
                  go_roundw
                  case rel => exact ⟨b + 1, by omega, by go_num, HX⟩
                  case measure => simp [intOf]; omega
        · obtain rfl : b = p.wide.length := by omega
          have HRo := Lib.hid (hro.out.kept hx.out.2 (fun _ _ h => h))
          have HRow := Lib.hid (show Blk wr wB.heap.size 4 (mkB p.wide.length (nearB p.code a)) from by
            have := hx.out.1
            rwa [mkB_congr (g := nearB p.code a) (fun s hs => by simp [rowTo, hs])] at this)
          have hvl := hro.out.len
          have hsB := hf.out.size
          have hsC := HF.out.size
          go_wp2_with (at_builtin
                       refine wpList_app (base := w1.heap.size) _ rfl slBools (.tmp 78) (.tmp 80) rfl u4 _ _ rfl (World.ownsRow.alloc HRo.out.ow _) (fun _ => True) _ 1 1 _ rfl (Reads.lit' (by simp) trivial rfl) ?_ ?_ ?_ ?_ ?_
                       · simp [Value.oneCell']
                       · omega
                       · unfold maxLen; omega
                       · simp; omega
                       intro v9 w9 hown9 hk9 hat9)
          have HS9 := Lib.hid (HRo.out.snoc (g := wB.heap.size) (by omega) HRow.out (by simpa using hown9) hk9)
          have HB9 := Lib.hid (show Fr w1 w9 from (HF.out.alloc _).app (World.ownsRow.alloc HRo.out.ow _) hk9)
          clear hown9 hk9 hat9 hvl
          go_roundw
          case rel => exact ⟨a + 1, _, by omega, by go_num, HS9, HB9⟩
          case measure => simp [intOf]; omega
    · obtain rfl : a = p.wide.length := by omega
      have HR := Lib.hid (hro.out.rdm (by omega) (by omega))
      go_wp2
      go_ret
      obtain ⟨A5, c5, vs5, e5, hl5, hr5, hrow5⟩ := HR.out
      exact ⟨_, rfl, ⟨A5, c5, vs5, e5, hl5, hr5.more (fun b hb => by omega), fun k row hk => let ⟨v5, h5, A6, c6, e6, hl6, hr6⟩ := hrow5 k row hk; ⟨v5, h5, A6, c6, e6, hl6, hr6.more (fun b hb => by omega)⟩⟩, HF1.out.trans hf.out⟩
end Go.Proofs.Ytodmkjeankbieab
