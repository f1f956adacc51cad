/- RefNear2, Place, RefPlace, SortInt, Color1, Color2, Place1, Color3: texts of this claim, packed into one file. -/
import Derived.Test.YtodmkjeankbieabKColorApartk5
import Derived.Test.YtodmkjeankbieabKColorApartk1
import Derived.Test.YtodmkjeankbieabKColorApartk0
import Derived.Test.YtodmkjeankbieabKColorApartk3
import Derived.Shelf.SlSortCmp.Insertion
import Derived.Deep.LoopGhost
import Derived.Test.YtodmkjeankbieabProg
import Derived.WalkKit
import Derived.ProofKit
import Derived.WalkSpells
import Derived.WalkLawsBesides
import Derived.Lib.Hide
import Derived.Outline
/- The walk of the reference of chapter 5: Of. -/
namespace Go.Proofs.Ytodmkjeankbieab
open Go.RowKit Go.Sort

def isTo (x : Bool) (f : Nat → Bool) (k : Nat) : Bool := x || (List.range k).any f
theorem isTo_s {x : Bool} {f : Nat → Bool} {k : Nat} : isTo x f (k + 1) = (isTo x f k || f k) := by
  unfold isTo
  rw [List.range_succ, List.any_append]
  simp [Bool.or_assoc]
theorem isTo_true {x : Bool} {f : Nat → Bool} {k n : Nat} (h : isTo x f k = true) (hk : k ≤ n) : isTo x f n = true := by
  unfold isTo at *
  rw [Bool.or_eq_true, List.any_eq_true] at *
  rcases h with h | ⟨y, hy, h⟩
  · exact Or.inl h
  · exact Or.inr ⟨y, List.mem_range.2 (Nat.lt_of_lt_of_le (List.mem_range.1 hy) hk), h⟩
noncomputable def nearF (code : List In) (a b k : Nat) : Bool := nearAt code (needB code) k a b || nearAt code (needB code) k b a
theorem near_isTo {code : List In} {a b : Nat} : nearB code a b = (decide (a ≠ b) && isTo (needB code 0 a && needB code 0 b) (nearF code a b) code.length) := rfl

theorem bne_dec {a b : Nat} : ((a : Int) != (b : Int)) = decide (a ≠ b) := by
  by_cases h : a = b
  · simp [h]
  · simp [h]; omega

structure Row1 (wr : World) (gl og g0 bb ob W c : Nat) (m : Nat → Bool) : Prop where
  ptr : wr.cell? ⟨gl, og, none⟩ = some (.slice (some ⟨bb, ob, none⟩) W c)
  cell : ∀ j, j < W → wr.cell? ⟨bb, ob + j, none⟩ = some (.bool (m j))
  l1 : gl < g0
  l2 : bb < g0
  h1 : gl < wr.heap.size
  h2 : bb < wr.heap.size
theorem Row1.keep {wr w2 : World} {gl og g0 bb ob W c : Nat} {m : Nat → Bool} (h : Row1 wr gl og g0 bb ob W c m) {S : Nat → Prop} (hk : Kept S wr w2) (hS : ∀ k, S k → g0 ≤ k) : Row1 w2 gl og g0 bb ob W c m :=
  ⟨(hk.cell (p := ⟨gl, og, none⟩) h.h1 (fun hs => by have := hS _ hs; have := h.l1; simp only at *; omega)).trans h.ptr, fun j hj => (hk.cell (p := ⟨bb, ob + j, none⟩) h.h2 (fun hs => by have := hS _ hs; have := h.l2; simp only at *; omega)).trans (h.cell j hj), h.l1, h.l2,
    Nat.lt_of_lt_of_le h.h1 hk.size, Nat.lt_of_lt_of_le h.h2 hk.size⟩

set_option maxHeartbeats 8000000 in
set_option maxRecDepth 100000 in
theorem refNearOf_any (R : Nat → Prop) (v : Value) (p : Pg) (w : World) (h : RdPg w R v p) (hmay : mayB p = true) :
    Calls Try.prog 22 #[v] w fun e w' => ∃ v, e = .returned v ∧ RdM w' (fun b => w.heap.size ≤ b) v (nearM p) ∧ Fr w w' := by
  have H := Lib.hid h
  obtain ⟨vw, vc, rfl, ⟨A, c, rfl, hl, hr⟩, ⟨A', c', rfl, hl', hr', ho'⟩⟩ := h
  clear hr hr' ho' hl hl'
  obtain ⟨l1, l2, l3, l4⟩ := mayB_len hmay
  have HMay := Lib.hid hmay
  have hmk := run_make_bools p.wide.length (by omega)
  have B0 := Lib.hid (Blk.new w 25 #[.slice A p.wide.length c, .slice A' p.code.length c'])
  have F0 := Lib.hid (show Fr w (w.alloc (.cells #[.slice A p.wide.length c, .slice A' p.code.length c'] 25)) from (Kept.refl _ w).alloc _)
  clear hmay
  go_enter Try.func22, Try.ntmps22
  go_wp2_with fail
  refine (refLiveOf_any R _ p _ (H.out.kept F0.out (fun _ _ h => h)) HMay.out).mono ?_
  rintro e w1 ⟨vn, rfl, hnd, f1⟩
  have HB1 := Lib.hid (B0.out.kept f1 (fun h => h))
  have HF1 := Lib.hid (F0.out.trans f1)
  have hs1 : w.heap.size ≤ w1.heap.size := (F0.out.trans f1).size
  have hnd2 := hnd.old
  obtain ⟨An, cn, rfl⟩ := hnd.val
  have hlen : (needM p).length = p.code.length := by unfold needM; simp
  rw [hlen] at hnd2
  rw [hlen]
  obtain ⟨gl, og, cg, u, hv, hR0, hl0, hcell, hbo⟩ := hnd2.row (k := 0) (row := (List.range p.wide.length).map (needB p.code 0)) (matL_at (M := needB p.code) (by omega))
  obtain ⟨A0, cz, ru, _, hrz⟩ := hbo
  simp only [Value.slice.injEq] at hv
  obtain ⟨hv1, hv2, hv3⟩ := hv
  subst hv1
  rw [show ((List.range p.wide.length).map (needB p.code 0)).length = p.wide.length by simp] at ru hrz
  obtain ⟨bb, ob, rfl, hRb, hcb⟩ := hrz.2 (by omega)
  subst ru
  have hcb' : ∀ j, j < p.wide.length → w1.cell? ⟨bb, ob + j, none⟩ = some (.bool (needB p.code 0 j)) := fun j hj => hcb j _ (by simp [List.getElem?_range hj])
  have HR0 := Lib.hid (show Row1 w1 gl og w1.heap.size bb ob p.wide.length cz (needB p.code 0) from ⟨by simpa using hcell, hcb', hR0.2, hRb.2, hl0, cell_lt (hcb' 0 (by omega))⟩)
  have HGV := Lib.hid (fun (w2 : World) (hf : Fr w1 w2) at_ a b (ht : at_ < p.code.length) (ha : a < p.wide.length) (hb : b < p.wide.length) =>
    refGives5_any R _ _ _ p at_ a b w2 (H.out.kept (HF1.out.trans hf) (fun _ _ h => h)) (hnd2.kept hf (fun _ _ h => h)) HMay.out ht ha hb)
  clear hcell hcb hcb' hrz hR0 hRb hl0 hnd hnd2 hv2 hv3 f1 B0 F0 hlen
  go_wp2
  go_loopw [4, 5] (fun v i wr => ∃ (a : Nat) (vs : List Value), a ≤ p.wide.length ∧ i = .int .i64 a ∧ Hid (RowsOwn w1 wr v p.wide.length a (nearB p.code) vs) ∧ Hid (Fr w1 wr)) (fun _ i _ => p.wide.length - (intOf i).toNat)
  case atStart => exact ⟨0, [], Nat.zero_le _, rfl, RowsOwn.nil _ _ _ _, Kept.refl _ w1⟩
  case round =>
    obtain ⟨a, vs, ha, rfl, hro, hf⟩ := hrel
    have hB := HB1.out.kept hf.out (fun h => h)
    have q0 := hB.cell 0
    have z0 := hB.lt
    simp only [List.getElem?_toArray, List.getElem?_cons_succ, List.getElem?_cons_zero] at q0
    by_cases hal : a < p.wide.length
    · obtain ⟨wB, rfl⟩ : ∃ wB : World, wB = wr := ⟨_, rfl⟩
      have HB0 : Hid (Blk (wB.alloc (.cells (mkB p.wide.length fun _ => false) 4)) wB.heap.size 4 (mkB p.wide.length (lrowTo (nearB p.code a) 0))) := by
        have := Blk.new wB 4 (mkB p.wide.length fun _ => false)
        rwa [mkB_congr (g := lrowTo (nearB p.code a) 0) (fun t _ => by simp [lrowTo])] at this
      have ha0 : (0 : Int) ≤ (a : Int) := Int.natCast_nonneg _
      have ha1 : (a : Int) < (p.wide.length : Int) := by omega
      clear hB
      go_wp2
      go_loopw [7] (fun i wr => ∃ b : Nat, b ≤ p.wide.length ∧ i = .int .i64 b ∧ Hid (Blk wr wB.heap.size 4 (mkB p.wide.length (lrowTo (nearB p.code a) b)) ∧ Fr wB wr)) (fun i _ => p.wide.length - (intOf i).toNat)
      case atStart => exact ⟨0, Nat.zero_le _, rfl, ⟨HB0.out, (Kept.refl _ wB).alloc _⟩⟩
      case round =>
        obtain ⟨b, hb, rfl, hx⟩ := hrel
        clear HB0 q0 z0
        have HF := Lib.hid (hf.out.trans hx.out.2)
        have HBp := Lib.hid (HB1.out.kept HF.out (fun h => h))
        have HRw := Lib.hid (HR0.out.keep HF.out (fun k hk => hk.elim))
        have q0 := HBp.out.cell 0
        have q1 := HBp.out.cell 1
        have zp := HBp.out.lt
        simp only [List.getElem?_toArray, List.getElem?_cons_succ, List.getElem?_cons_zero] at q0 q1
        by_cases hbl : b < p.wide.length
        · have g0' := HRw.out.ptr
          have xa := HRw.out.cell a hal
          have xb := HRw.out.cell b hbl
          have zg := HRw.out.h1
          have zb := HRw.out.h2
          have hb0 : (0 : Int) ≤ (b : Int) := Int.natCast_nonneg _
          have hb1 : (b : Int) < (p.wide.length : Int) := by omega
          obtain ⟨wC, rfl⟩ : ∃ wC : World, wC = wr := ⟨_, rfl⟩
          have HNB := Lib.hid (near_isTo (code := p.code) (a := a) (b := b))
          have HAB := Lib.hid (fun k (hk : k < p.code.length) w2 (hf2 : Fr w1 w2) => HGV.out w2 hf2 k a b hk hal hbl)
          have HBA := Lib.hid (fun k (hk : k < p.code.length) w2 (hf2 : Fr w1 w2) => HGV.out w2 hf2 k b a hk hbl hal)
          have HNF : Hid (∀ k, nearF p.code a b k = (nearAt p.code (needB p.code) k a b || nearAt p.code (needB p.code) k b a)) := fun _ => rfl
          obtain ⟨x0, hx0⟩ : ∃ x0, x0 = (needB p.code 0 a && needB p.code 0 b) := ⟨_, rfl⟩
          rw [← hx0] at HNB
          have HX0 := Lib.hid hx0
          clear hx0
          generalize needB p.code 0 a = ya at *
          generalize needB p.code 0 b = yb at *
          generalize nearF p.code a b = nf at *
          have HC := Lib.hid hx.out.1
          have zw := hx.out.1.lt
          have HFB := Lib.hid hx.out.2
          clear hx
          have hcs : (ya = true ∧ yb = true) ∨ (ya = true ∧ yb = false) ∨ ya = false := by cases ya <;> cases yb <;> simp
          rcases hcs with ⟨rfl, rfl⟩ | ⟨rfl, rfl⟩ | rfl
          all_goals
            go_wp2
            have F0 := Lib.hid (Kept.refl (fun _ => False) wC)
            go_loopw [8, 9] (fun s i wr => ∃ k : Nat, k ≤ p.code.length ∧ i = .int .i64 k ∧ s = .bool (isTo x0 nf k) ∧ Hid (Fr wC wr)) (fun _ i _ => p.code.length - (intOf i).toNat)
            case atStart => exact ⟨0, Nat.zero_le _, rfl, by rw [HX0.out]; rfl, F0⟩
            case round =>
              obtain ⟨k, hk, rfl, rfl, hf3⟩ := hrel
              have HFt := Lib.hid (HF.out.trans hf3.out)
              have hB := HB1.out.kept HFt.out (fun h => h)
              have q0 := hB.cell 0
              have q1 := hB.cell 1
              have zb := hB.lt
              simp only [List.getElem?_toArray, List.getElem?_cons_succ, List.getElem?_cons_zero] at q0 q1
              have hC := HC.out.kept hf3.out (fun h => h)
              have r0 := hC.bcell hbl
              have r1 := hC.frozen b
              have zC := hC.lt
              clear hB hC
              have HEX : Hid (∀ (y : Bool), y = nearB p.code a b → Blk (wr.setCell ⟨wB.heap.size, b, none⟩ (.bool y)) wB.heap.size 4 (mkB p.wide.length (lrowTo (nearB p.code a) (b + 1))) ∧ Fr wB (wr.setCell ⟨wB.heap.size, b, none⟩ (.bool y))) := by
                intro y e
                subst e
                have hC := HC.out.kept hf3.out (fun h => h)
                refine ⟨?_, (HFB.out.trans hf3.out).setCell (p := ⟨wB.heap.size, b, none⟩) (fun h => by simp at h) _⟩
                have := hC.bset b (nearB p.code a b)
                rwa [mkB_congr (fun s _ => lrowTo_s)] at this
              by_cases hkl : k < p.code.length
              · have hkd : decide ((k : Int) < (p.code.length : Int)) = true := decide_eq_true (by omega)
                have HA := Lib.hid (HAB.out k hkl)
                have HB := Lib.hid (HBA.out k hkl)
                have HS := Lib.hid (isTo_s (x := x0) (f := nf) (k := k))
                have HT : Hid (isTo x0 nf k = true → isTo x0 nf p.code.length = true) := fun h => isTo_true h hk
                rw [HNF.out] at HS
                generalize nearAt p.code (needB p.code) k a b = ga at *
                generalize nearAt p.code (needB p.code) k b a = gb at *
                rcases Bool.eq_false_or_eq_true (isTo x0 nf k) with hi | hi
                · rw [hi]
                  have HX := Lib.hid (HEX.out ((a : Int) != (b : Int)) (by rw [HNB.out, HT.out hi, bne_dec]; simp))
                  clear HS HT HEX HNB
                  go_wp2
                  go_roundw
                  case rel => exact ⟨b + 1, by omega, by go_num, HX⟩
                  case measure => simp [intOf]; omega
                · rw [hi]
                  rw [hi] at HS
                  clear HT HEX HNB
                  go_wp2_with fail
                  refine (HA.out _ HFt.out).mono ?_
                  rintro e w2 ⟨rfl, f2⟩
                  have HF2 := Lib.hid (HFt.out.trans f2)
                  have HB2 := Lib.hid (HB1.out.kept HF2.out (fun h => h))
                  have q0 := HB2.out.cell 0
                  have q1 := HB2.out.cell 1
                  have zb := HB2.out.lt
                  simp only [List.getElem?_toArray, List.getElem?_cons_succ, List.getElem?_cons_zero] at q0 q1
                  have HF3 := Lib.hid (hf3.out.trans f2)
                  cases ga with
                  | true =>
                    go_wp2
                    go_roundw
                    case rel => exact ⟨k + 1, by omega, by go_num, by rw [HS.out]; rfl, HF3⟩
                    case measure => simp [intOf]; omega
                  | false =>
                    go_wp2_with fail
                    refine (HB.out _ HF2.out).mono ?_
                    rintro e w3 ⟨rfl, f3⟩
                    have HF4 := Lib.hid (HF3.out.trans f3)
                    go_wp2
                    go_roundw
                    case rel => exact ⟨k + 1, by omega, by go_num, by rw [HS.out]; simp, HF4⟩
                    case measure => simp [intOf]; omega
              · obtain rfl : k = p.code.length := by omega
                have hkd : decide ((p.code.length : Int) < (p.code.length : Int)) = false := decide_eq_false (by omega)
                rcases Bool.eq_false_or_eq_true (isTo x0 nf p.code.length) with hi | hi
                · rw [hi]
                  have HX := Lib.hid (HEX.out ((a : Int) != (b : Int)) (by rw [HNB.out, hi, bne_dec]; simp))
                  clear HEX HNB
                  go_wp2
                  go_roundw
                  case rel => exact ⟨b + 1, by omega, by go_num, HX⟩
                  case measure => simp [intOf]; omega
                · rw [hi]
                  have HX := Lib.hid (HEX.out false (by rw [HNB.out, hi]; simp))
                  clear HEX HNB
                  go_wp2
                  go_roundw
                  case rel => exact ⟨b + 1, by omega, by go_num, HX⟩
                  case measure => simp [intOf]; omega
        · obtain rfl : b = p.wide.length := by omega
          have HRo := Lib.hid (hro.out.kept hx.out.2 (fun _ _ h => h))
          have HRow := Lib.hid (show Blk wr wB.heap.size 4 (mkB p.wide.length (nearB p.code a)) from by
            have := hx.out.1
            rwa [mkB_congr (g := nearB p.code a) (fun s hs => by simp [lrowTo, hs])] at this)
          have hvl := hro.out.len
          have hsB := hf.out.size
          have hsC := HF.out.size
          go_wp2_with (at_builtin
                       refine wpList_app (base := w1.heap.size) _ rfl slBools (.tmp 78) (.tmp 80) rfl u4 _ _ rfl (World.ownsRow.alloc HRo.out.ow _) (fun _ => True) _ 1 1 _ rfl (Reads.lit' (by simp) trivial rfl) ?_ ?_ ?_ ?_ ?_
                       · simp [Value.oneCell']
                       · omega
                       · unfold maxLen; omega
                       · simp; omega
                       intro v9 w9 hown9 hk9 hat9)
          have HS9 := Lib.hid (HRo.out.snoc (g := wB.heap.size) (by omega) HRow.out (by simpa using hown9) hk9)
          have HB9 := Lib.hid (show Fr w1 w9 from (HF.out.alloc _).app (World.ownsRow.alloc HRo.out.ow _) hk9)
          clear hown9 hk9 hat9 hvl
          go_roundw
          case rel => exact ⟨a + 1, _, by omega, by go_num, HS9, HB9⟩
          case measure => simp [intOf]; omega
    · obtain rfl : a = p.wide.length := by omega
      have HR := Lib.hid (hro.out.rdm (by omega) (by omega))
      go_wp2
      go_ret
      obtain ⟨A5, c5, vs5, e5, hl5, hr5, hrow5⟩ := HR.out
      exact ⟨_, rfl, ⟨A5, c5, vs5, e5, hl5, hr5.more (fun b hb => by omega), fun k row hk => let ⟨v5, h5, A6, c6, e6, hl6, hr6⟩ := hrow5 k row hk; ⟨v5, h5, A6, c6, e6, hl6, hr6.more (fun b hb => by omega)⟩⟩, HF1.out.trans hf.out⟩
end Go.Proofs.Ytodmkjeankbieab

/- The walks of package place: Target, is, move, moves. -/
namespace Go.Proofs.Ytodmkjeankbieab
open Go.RowKit Go.Sort

def tgV (sg : Int) : Value := .agg #[.int .i64 sg]
/-- a move as a value -/
def Mv.value (m : Mv) : Value := .agg #[.int .i64 m.to.k, .int .i64 m.to.n, .int .i64 m.fr.k, .int .i64 m.fr.n, .bool m.c, .int .u32 m.n]

set_option maxHeartbeats 400000 in
theorem Target_any (sg : Int) (w : World) : Calls Try.prog 75 #[tgV sg] w fun e w' => e = .returned (.bool (tgB sg)) ∧ Fr w w' := by
  have HF := Lib.hid (show Fr w (w.alloc (.cells #[.int .i64 sg] 47)) from (Kept.refl _ w).alloc _)
  unfold tgV
  go_enter Try.func75, Try.ntmps75
  go_wp2
  all_goals go_ret
  all_goals refine ⟨ret_b ?_, HF.out⟩
  all_goals unfold tgB
  all_goals rw [Bool.eq_iff_iff]
  all_goals simp only [Bool.and_eq_true, decide_eq_true_eq, beq_iff_eq, Bool.false_eq_true, false_iff]
  all_goals omega

set_option maxHeartbeats 400000 in
theorem is_any (sg sl : Int) (a : PlaceV) (w : World) (h4 : 4 ≤ sg) (h16 : sg ≤ 16) : Calls Try.prog 112 #[tgV sg, .int .i64 sl, a.val] w fun e w' => e = .returned (.bool (isB sg sl a)) ∧ Fr w w' := by
  obtain ⟨k, n⟩ := a
  have HF := Lib.hid (show Fr w ((w.alloc (.cells #[.int .i64 sg] 47)).alloc (.cells #[.int .i64 k, .int .i64 n] 57)) from ((Kept.refl _ w).alloc _).alloc _)
  have hq : sg.tdiv 2 = sg / 2 := Int.tdiv_eq_ediv_of_nonneg (by omega)
  unfold tgV PlaceV.val
  simp only
  go_enter Try.func112, Try.ntmps112
  go_wp2
  all_goals go_ret
  all_goals refine ⟨ret_b ?_, HF.out⟩
  all_goals unfold isB
  all_goals rw [Bool.eq_iff_iff]
  all_goals simp only [beq_iff_eq, beq_eq_false_iff_ne] at *
  all_goals simp only [Bool.and_eq_true, decide_eq_true_eq, beq_iff_eq, Bool.false_eq_true, false_iff]
  all_goals (split <;> (try split) <;> (try split) <;> omega)

theorem mvB_c {sg sl : Int} {to fr : PlaceV} {n : Nat} : mvB sg sl ⟨to, fr, true, n⟩ = (isB sg sl to && (decide (fr = ⟨0, 0⟩) && decide (to.k = 1))) := rfl
theorem mvB_n {sg sl : Int} {to fr : PlaceV} {n : Nat} : mvB sg sl ⟨to, fr, false, n⟩ = (isB sg sl to && (decide (n = 0) && isB sg sl fr && (decide (to.k = fr.k) != (decide (to.k = 3) || decide (fr.k = 3))))) := rfl

set_option maxHeartbeats 1000000 in
set_option maxRecDepth 100000 in
theorem move_any (sg sl : Int) (m : Mv) (w : World) (h4 : 4 ≤ sg) (h16 : sg ≤ 16) : Calls Try.prog 132 #[tgV sg, .int .i64 sl, m.value] w fun e w' => e = .returned (.bool (mvB sg sl m)) ∧ Fr w w' := by
  obtain ⟨⟨tk, tn⟩, ⟨fk, fn⟩, c, n⟩ := m
  have HF0 := Lib.hid (show Fr w ((w.alloc (.cells #[.int .i64 sg] 47)).alloc (.cells #[.int .i64 tk, .int .i64 tn, .int .i64 fk, .int .i64 fn, .bool c, .int .u32 n] 74)) from ((Kept.refl _ w).alloc _).alloc _)
  have HB0 := Lib.hid ((Blk.new w 47 #[.int .i64 sg]).alloc (.cells #[.int .i64 tk, .int .i64 tn, .int .i64 fk, .int .i64 fn, .bool c, .int .u32 n] 74))
  have HB1 : Hid (Blk ((w.alloc (.cells #[.int .i64 sg] 47)).alloc (.cells #[.int .i64 tk, .int .i64 tn, .int .i64 fk, .int .i64 fn, .bool c, .int .u32 n] 74)) (w.heap.size + 1) 74 #[.int .i64 tk, .int .i64 tn, .int .i64 fk, .int .i64 fn, .bool c, .int .u32 n]) := by
    have := Blk.new (w.alloc (.cells #[.int .i64 sg] 47)) 74 #[.int .i64 tk, .int .i64 tn, .int .i64 fk, .int .i64 fn, .bool c, .int .u32 n]
    show Blk _ _ _ _
    simpa using this
  have HTo := Lib.hid (fun w => is_any sg sl ⟨tk, tn⟩ w h4 h16)
  have HFrm := Lib.hid (fun w => is_any sg sl ⟨fk, fn⟩ w h4 h16)
  unfold tgV PlaceV.val at HTo HFrm
  simp only at HTo HFrm
  unfold tgV Mv.value
  simp only
  go_enter Try.func132, Try.ntmps132
  go_wp2_with fail
  refine (HTo.out _).mono ?_
  rintro e w1 ⟨rfl, f1⟩
  have HF1 := Lib.hid (HF0.out.trans f1)
  have HB2 := Lib.hid (HB0.out.kept f1 (fun h => h))
  have HB3 := Lib.hid (HB1.out.kept f1 (fun h => h))
  have t0 := HB2.out.cell 0
  have m0 := HB3.out.cell 0
  have m2 := HB3.out.cell 2
  have m3 := HB3.out.cell 3
  have m4 := HB3.out.cell 4
  have m5 := HB3.out.cell 5
  have z0 := HB2.out.lt
  have z1 := HB3.out.lt
  simp only [List.getElem?_toArray, List.getElem?_cons_succ, List.getElem?_cons_zero] at t0 m0 m2 m3 m4 m5
  clear f1 HF0 HB0 HB1 HTo
  cases ht : isB sg sl ⟨tk, tn⟩ with
  | false =>
    have HV : Hid (mvB sg sl ⟨⟨tk, tn⟩, ⟨fk, fn⟩, c, n⟩ = false) := by
      show _ = _; unfold mvB; simp only; rw [ht]; rfl
    clear ht
    go_wp2
    go_ret
    exact ⟨ret_b HV.out.symm, HF1.out⟩
  | true =>
    cases c with
    | true =>
      have HV : Hid (mvB sg sl ⟨⟨tk, tn⟩, ⟨fk, fn⟩, true, n⟩ = (decide ((⟨fk, fn⟩ : PlaceV) = ⟨0, 0⟩) && decide (tk = 1))) := by
        show _ = _; rw [mvB_c, ht]; rfl
      clear ht
      go_wp2
      all_goals go_ret
      all_goals refine ⟨ret_b ?_, HF1.out⟩
      all_goals rw [HV.out, Bool.eq_iff_iff]
      all_goals simp only [Bool.and_eq_true, decide_eq_true_eq, beq_iff_eq, Bool.false_eq_true, false_iff, PlaceV.mk.injEq]
      all_goals omega
    | false =>
      have HV : Hid (mvB sg sl ⟨⟨tk, tn⟩, ⟨fk, fn⟩, false, n⟩ = (decide (n = 0) && isB sg sl ⟨fk, fn⟩ && (decide (tk = fk) != (decide (tk = 3) || decide (fk = 3))))) := by
        show _ = _; rw [mvB_n, ht]; rfl
      clear ht
      by_cases hn0 : n = 0
      · subst hn0
        go_wp2
        go_quiet (fail)
        go_wp2_with fail
        refine (HFrm.out _).mono ?_
        rintro e w2 ⟨rfl, f2⟩
        have HF2 := Lib.hid ((HF1.out.drewN nq).trans f2)
        clear f2
        cases hi : isB sg sl ⟨fk, fn⟩ with
        | false =>
          rw [hi] at HV
          clear hi
          go_wp2
          go_ret
          refine ⟨ret_b ?_, HF2.out⟩
          rw [HV.out]
          rfl
        | true =>
          rw [hi] at HV
          have HV2 : Hid (mvB sg sl ⟨⟨tk, tn⟩, ⟨fk, fn⟩, false, 0⟩ = ((tk == fk) != (decide (tk = 3) || decide (fk = 3)))) := by
            show _ = _
            rw [HV.out, show decide (tk = fk) = (tk == fk) from by rw [Bool.eq_iff_iff]; simp]
            rfl
          clear hi HV
          go_wp2
          all_goals go_ret
          all_goals refine ⟨ret_b ?_, HF2.out⟩
          all_goals rw [HV2.out]
          · rename_i h3
            subst h3
            simp [bne]
          · rename_i h3
            have e3 : decide (tk = 3) = (tk == 3) := by rw [Bool.eq_iff_iff]; simp
            have e4 : decide (fk = 3) = (fk == 3) := by rw [Bool.eq_iff_iff]; simp
            rw [e3, e4]
            rfl
      · have hn1 : ((n : Int) == 0) = false := by simpa using hn0
        go_wp2
        go_quiet (fail)
        go_wp2_with fail
        go_ret
        refine ⟨ret_b ?_, HF1.out.drewN nq⟩
        rw [HV.out, decide_eq_false hn0]
        rfl
end Go.Proofs.Ytodmkjeankbieab

/- The walks of the reference of chapter 6: half, near, Overlap, Target, Is, move, moves, register. -/
namespace Go.Proofs.Ytodmkjeankbieab
open Go.RowKit Go.Sort

set_option maxHeartbeats 400000 in
theorem refNear6_any (n : Int) (w : World) : Calls Try.prog 73 #[.int .i64 n] w fun e w' => e = .returned (.bool (decide (-4611686018427387904 ≤ n ∧ n ≤ 4611686018427387903))) ∧ w = w' := by
  go_enter Try.func73, Try.ntmps73
  go_wp2
  all_goals go_ret
  all_goals refine ⟨ret_b ?_, rfl⟩
  all_goals rw [Bool.eq_iff_iff]
  all_goals simp only [Bool.and_eq_true, Bool.or_eq_true, decide_eq_true_eq, beq_iff_eq, Bool.false_eq_true, false_iff, true_iff]
  all_goals omega
set_option maxHeartbeats 400000 in
theorem refHalf_any (a b : Int) (w : World) (hb : -4611686018427387904 ≤ b ∧ b ≤ 4611686018427387903) : Calls Try.prog 74 #[.int .i64 a, .int .i64 b] w fun e w' => e = .returned (.bool (decide (a / 2 = b))) ∧ w = w' := by
  obtain ⟨h0, h1⟩ := hb
  go_enter Try.func74, Try.ntmps74
  go_wp2
  all_goals go_ret
  all_goals refine ⟨ret_b ?_, rfl⟩
  all_goals rw [Bool.eq_iff_iff]
  all_goals simp only [Bool.and_eq_true, Bool.or_eq_true, decide_eq_true_eq, beq_iff_eq, Bool.false_eq_true, false_iff, true_iff]
  all_goals omega

set_option maxHeartbeats 1000000 in
set_option maxRecDepth 100000 in
theorem refOverlap_any (a b : PlaceV) (w : World) (ha : a.ok) (hb : b.ok) : Calls Try.prog 32 #[a.val, b.val] w fun e w' => e = .returned (.bool (ovP a b)) ∧ Fr w w' := by
  obtain ⟨ak, an⟩ := a
  obtain ⟨bk, bn⟩ := b
  have HF := Lib.hid (show Fr w ((w.alloc (.cells #[.int .i64 ak, .int .i64 an] 57)).alloc (.cells #[.int .i64 bk, .int .i64 bn] 57)) from ((Kept.refl _ w).alloc _).alloc _)
  obtain ⟨_, ⟨ha0, ha1⟩⟩ := ha
  obtain ⟨_, ⟨hb0, hb1⟩⟩ := hb
  simp only at ha0 ha1 hb0 hb1
  have HNA := Lib.hid (fun w => refNear6_any an w)
  have HNB := Lib.hid (fun w => refNear6_any bn w)
  unfold PlaceV.val
  simp only
  by_cases hk : ak = bk
  · subst hk
    have HV : Hid (ovP ⟨ak, an⟩ ⟨ak, bn⟩ = (an == bn)) := by
      show _ = _; unfold ovP; simp only; rw [if_neg (by omega), if_neg (by omega), Bool.eq_iff_iff]; simp
    go_enter Try.func32, Try.ntmps32
    go_wp2
    go_ret
    exact ⟨ret_b HV.out.symm, HF.out⟩
  · by_cases h12 : ak = 1 ∧ bk = 2
    · obtain ⟨rfl, rfl⟩ := h12
      have HV : Hid (ovP ⟨1, an⟩ ⟨2, bn⟩ = decide (an / 2 = bn)) := by
        show _ = _; rw [Bool.eq_iff_iff]; simp [ovP]
      by_cases hn : -4611686018427387904 ≤ bn ∧ bn ≤ 4611686018427387903
      · have HH := Lib.hid (fun w => refHalf_any an bn w hn)
        rw [decide_eq_true hn] at HNB
        clear hk hn
        go_enter Try.func32, Try.ntmps32
        go_wp2_with fail
        refine (HNB.out _).mono ?_
        rintro e w1 ⟨rfl, rfl⟩
        go_wp2_with fail
        refine (HH.out _).mono ?_
        rintro e w1 ⟨rfl, rfl⟩
        go_wp2
        go_ret
        exact ⟨ret_b HV.out.symm, HF.out⟩
      · have HV2 : Hid (ovP ⟨1, an⟩ ⟨2, bn⟩ = false) := by show _ = _; rw [HV.out]; exact decide_eq_false (by omega)
        rw [decide_eq_false hn] at HNB
        clear hk hn HV
        go_enter Try.func32, Try.ntmps32
        go_wp2_with fail
        refine (HNB.out _).mono ?_
        rintro e w1 ⟨rfl, rfl⟩
        go_wp2
        go_ret
        exact ⟨ret_b HV2.out.symm, HF.out⟩
    · by_cases h21 : ak = 2 ∧ bk = 1
      · obtain ⟨rfl, rfl⟩ := h21
        have HV : Hid (ovP ⟨2, an⟩ ⟨1, bn⟩ = decide (bn / 2 = an)) := by
          show _ = _; rw [Bool.eq_iff_iff]; simp [ovP]
        by_cases hn : -4611686018427387904 ≤ an ∧ an ≤ 4611686018427387903
        · have HH := Lib.hid (fun w => refHalf_any bn an w hn)
          rw [decide_eq_true hn] at HNA
          clear hk hn h12
          go_enter Try.func32, Try.ntmps32
          go_wp2_with fail
          refine (HNA.out _).mono ?_
          rintro e w1 ⟨rfl, rfl⟩
          go_wp2_with fail
          refine (HH.out _).mono ?_
          rintro e w1 ⟨rfl, rfl⟩
          go_wp2
          go_ret
          exact ⟨ret_b HV.out.symm, HF.out⟩
        · have HV2 : Hid (ovP ⟨2, an⟩ ⟨1, bn⟩ = false) := by show _ = _; rw [HV.out]; exact decide_eq_false (by omega)
          rw [decide_eq_false hn] at HNA
          clear hk hn HV h12
          go_enter Try.func32, Try.ntmps32
          go_wp2_with fail
          refine (HNA.out _).mono ?_
          rintro e w1 ⟨rfl, rfl⟩
          go_wp2
          go_ret
          exact ⟨ret_b HV2.out.symm, HF.out⟩
      · have HV : Hid (ovP ⟨ak, an⟩ ⟨bk, bn⟩ = false) := by
          show _ = _; unfold ovP; simp only; rw [if_neg h21, if_neg h12]; exact decide_eq_false (by omega)
        have ek : (ak == bk) = false := by simpa using hk
        rcases (by omega : (ak = 1 ∧ bk ≠ 2) ∨ (ak = 2 ∧ bk ≠ 1) ∨ (ak ≠ 1 ∧ ak ≠ 2)) with ⟨rfl, e2⟩ | ⟨rfl, e2⟩ | ⟨e1, e2⟩
        · have e2' : (bk == 2) = false := by simpa using e2
          clear hk h12 h21 e2
          go_enter Try.func32, Try.ntmps32
          go_wp2
          go_ret
          exact ⟨ret_b HV.out.symm, HF.out⟩
        · have e2' : (bk == 1) = false := by simpa using e2
          clear hk h12 h21 e2
          go_enter Try.func32, Try.ntmps32
          go_wp2
          go_ret
          exact ⟨ret_b HV.out.symm, HF.out⟩
        · have e1' : (ak == 1) = false := by simpa using e1
          have e2' : (ak == 2) = false := by simpa using e2
          clear hk h12 h21 e1 e2
          go_enter Try.func32, Try.ntmps32
          go_wp2
          go_ret
          exact ⟨ret_b HV.out.symm, HF.out⟩

/-- the numbers that a target may have, so far -/
def tgAt (sg n : Int) : Prop := 4 ≤ n ∧ n ≤ 18 ∧ n % 2 = 0 ∧ ∀ m, 4 ≤ m → m < n → m % 2 = 0 → sg ≠ m
set_option maxHeartbeats 400000 in
theorem refTarget_any (sg : Int) (w : World) : Calls Try.prog 34 #[tgV sg] w fun e w' => e = .returned (.bool (tgB sg)) ∧ Fr w w' := by
  have HF := Lib.hid (show Fr w (w.alloc (.cells #[.int .i64 sg] 47)) from (Kept.refl _ w).alloc _)
  have HB := Lib.hid (Blk.new w 47 #[.int .i64 sg])
  unfold tgV
  go_enter Try.func34, Try.ntmps34
  go_wp2
  go_loopw [3] (fun i wr => ∃ n : Int, i = .int .i64 n ∧ Hid (tgAt sg n) ∧ Hid (Blk wr w.heap.size 47 #[.int .i64 sg]) ∧ Hid (Fr w wr)) (fun i _ => 20 - (intOf i).toNat)
  case atStart => exact ⟨4, rfl, ⟨by omega, by omega, by omega, fun m h1 h2 => by omega⟩, HB, HF⟩
  case round =>
    obtain ⟨n, rfl, ht, hb, hf⟩ := hrel
    have t0 := hb.out.cell 0
    have zt := hb.out.lt
    simp only [List.getElem?_toArray, List.getElem?_cons_succ, List.getElem?_cons_zero] at t0
    obtain ⟨h0, h1, h2, h3⟩ := ht.out
    by_cases h16 : n ≤ 16
    · by_cases he : sg = n
      · subst he
        have HV : Hid (tgB sg = true) := by show _ = _; unfold tgB; simp; omega
        go_wp2
        go_ret
        exact ⟨ret_b HV.out.symm, hf.out⟩
      · have he' : (sg == n) = false := by simpa using he
        have HN : Hid (tgAt sg (n + 2)) := ⟨by omega, by omega, by omega, fun m q0 q1 q2 => by
          by_cases e : m = n
          · subst e; exact he
          · exact h3 m q0 (by omega) q2⟩
        clear he h3 ht
        go_wp2
        go_roundw
        case rel => exact ⟨n + 2, by go_num, HN, hb, hf⟩
        case measure => simp [intOf]; omega
    · have HV : Hid (tgB sg = false) := by
        show _ = _
        unfold tgB
        have := h3 sg
        rw [Bool.and_eq_false_iff, Bool.and_eq_false_iff]
        by_cases q0 : 4 ≤ sg
        · by_cases q1 : sg ≤ 16
          · right
            apply decide_eq_false
            intro q2
            exact this q0 (by omega) q2 rfl
          · left; right; exact decide_eq_false q1
        · left; left; exact decide_eq_false q0
      clear h3 ht
      go_wp2
      go_ret
      exact ⟨ret_b HV.out.symm, hf.out⟩

set_option maxHeartbeats 1000000 in
theorem refIs_any (sg sl : Int) (a : PlaceV) (w : World) (h4 : 0 ≤ sg) (h16 : sg ≤ 16) (h2 : sg % 2 = 0) (ha : a.ok) : Calls Try.prog 31 #[tgV sg, .int .i64 sl, a.val] w fun e w' => e = .returned (.bool (isR sg sl a)) ∧ Fr w w' := by
  obtain ⟨k, n⟩ := a
  have HF := Lib.hid (show Fr w ((w.alloc (.cells #[.int .i64 sg] 47)).alloc (.cells #[.int .i64 k, .int .i64 n] 57)) from ((Kept.refl _ w).alloc _).alloc _)
  obtain ⟨_, ⟨ha0, ha1⟩⟩ := ha
  simp only at ha0 ha1
  unfold tgV PlaceV.val
  simp only
  by_cases k1 : k = 1
  · subst k1
    have HV : Hid (isR sg sl ⟨1, n⟩ = decide (0 ≤ n ∧ n < sg)) := by show _ = _; simp [isR]
    go_enter Try.func31, Try.ntmps31
    go_wp2
    all_goals go_ret
    all_goals refine ⟨ret_b ?_, HF.out⟩
    all_goals rw [HV.out]
    all_goals rw [Bool.eq_iff_iff]
    all_goals simp only [Bool.and_eq_true, Bool.or_eq_true, decide_eq_true_eq, beq_iff_eq, Bool.false_eq_true, false_iff, true_iff]
    all_goals omega
  · have k1' : (k == 1) = false := by simpa using k1
    by_cases k2 : k = 2
    · subst k2
      have HV : Hid (isR sg sl ⟨2, n⟩ = decide (0 ≤ n ∧ 2 * n < sg ∧ n < 100)) := by show _ = _; simp [isR]
      by_cases h100 : n < 100
      · by_cases h0 : 0 ≤ n
        · go_enter Try.func31, Try.ntmps31
          go_wp2
          all_goals go_ret
          all_goals refine ⟨ret_b ?_, HF.out⟩
          all_goals rw [HV.out]
          all_goals rw [Bool.eq_iff_iff]
          all_goals simp only [Bool.and_eq_true, Bool.or_eq_true, decide_eq_true_eq, beq_iff_eq, Bool.false_eq_true, false_iff, true_iff]
          all_goals omega
        · go_enter Try.func31, Try.ntmps31
          go_wp2
          all_goals go_ret
          all_goals refine ⟨ret_b ?_, HF.out⟩
          all_goals rw [HV.out]
          all_goals rw [Bool.eq_iff_iff]
          all_goals simp only [Bool.and_eq_true, Bool.or_eq_true, decide_eq_true_eq, beq_iff_eq, Bool.false_eq_true, false_iff, true_iff]
          all_goals omega
      · go_enter Try.func31, Try.ntmps31
        go_wp2
        all_goals go_ret
        all_goals refine ⟨ret_b ?_, HF.out⟩
        all_goals rw [HV.out]
        all_goals rw [Bool.eq_iff_iff]
        all_goals simp only [Bool.and_eq_true, Bool.or_eq_true, decide_eq_true_eq, beq_iff_eq, Bool.false_eq_true, false_iff, true_iff]
        all_goals omega
    · have k2' : (k == 2) = false := by simpa using k2
      by_cases k3 : k = 3
      · subst k3
        have HV : Hid (isR sg sl ⟨3, n⟩ = decide (0 ≤ n ∧ n < sl)) := by show _ = _; simp [isR]
        go_enter Try.func31, Try.ntmps31
        go_wp2
        all_goals go_ret
        all_goals refine ⟨ret_b ?_, HF.out⟩
        all_goals rw [HV.out]
        all_goals rw [Bool.eq_iff_iff]
        all_goals simp only [Bool.and_eq_true, Bool.or_eq_true, decide_eq_true_eq, beq_iff_eq, Bool.false_eq_true, false_iff, true_iff]
        all_goals omega
      · have k3' : (k == 3) = false := by simpa using k3
        have HV : Hid (isR sg sl ⟨k, n⟩ = false) := by show _ = _; simp [isR, k1, k2, k3]
        go_enter Try.func31, Try.ntmps31
        go_wp2
        go_ret
        exact ⟨ret_b HV.out.symm, HF.out⟩
end Go.Proofs.Ytodmkjeankbieab

/- A row of ints is sorted by a function that only reads: every cell still holds one of what they held. -/
namespace Go.Proofs.Ytodmkjeankbieab
open Go.RowKit Go.Sort Go.Shelf

/-- the numbers of the sort's types and functions -/
def sortRen : Ren := ⟨fun n => if n = 20 then 124 else n, fun n => if n = 0 then 0 else if n = 3 then 3 else if n = 4 then 4 else if n = 22 then 99 else if n = 24 then 3 else if n = 25 then 129 else n, fun n => n⟩

theorem sortLays : SlLaysF.n20 Try.prog sortRen where
  mixed := by kernel_rfl
  f20 := ⟨Try.f124.name, by decide, by kernel_rfl⟩
  t0 := Try.underlying0
  a0 := Try.isAgg0
  z0 := Try.sizeOf0
  v0 := Try.zeroValue0
  t3 := Try.underlying3
  a3 := Try.isAgg3
  z3 := Try.sizeOf3
  v3 := Try.zeroValue3
  t4 := Try.underlying4
  a4 := Try.isAgg4
  z4 := Try.sizeOf4
  v4 := Try.zeroValue4
  t22 := Try.underlying99
  a22 := Try.isAgg99
  z22 := Try.sizeOf99
  v22 := Try.zeroValue99
  a24 := Try.isAgg3
  z24 := Try.sizeOf3
  t25 := Try.underlying129
  a25 := Try.isAgg129
  z25 := Try.sizeOf129
  v25 := Try.zeroValue129
end Go.Proofs.Ytodmkjeankbieab

/- The walks of color.Make's two closures: how many are near one; which of two has more. And the sort by them. -/
namespace Go.Proofs.Ytodmkjeankbieab
open Go.RowKit Go.Sort Go.Shelf

/-- how many of the first k are true -/
def manyTo (row : List Bool) (k : Nat) : Nat := ((row.take k).filter id).length
theorem manyTo_s {row : List Bool} {k : Nat} {x : Bool} (h : row[k]? = some x) : manyTo row (k + 1) = manyTo row k + (if x then 1 else 0) := by
  unfold manyTo
  rw [List.take_add_one, h, List.filter_append, List.length_append]
  cases x <;> simp
theorem manyTo_le (row : List Bool) (k : Nat) : manyTo row k ≤ k := by
  unfold manyTo
  exact Nat.le_trans (List.length_filter_le _ _) (by rw [List.length_take]; omega)
def manyL (row : List Bool) : Nat := manyTo row row.length

set_option maxHeartbeats 1000000 in
theorem many_any (R : Nat → Prop) (bn : Nat) (v : Value) (M : List (List Bool)) (t : Nat) (row : List Bool) (w : World) (hb : Blk w bn 38 #[v]) (h : RdM w R v M) (ht : M[t]? = some row) (hr : row.length ≤ 100) :
    Calls Try.prog 69 #[.int .i64 (t : Int), .pointer (some ⟨bn, 0, none⟩)] w fun e w' => e = .returned (.int .i64 (manyL row : Int)) ∧ w' = w := by
  obtain ⟨b, off, c, u, rfl, _, hbl, c0, hrow⟩ := h.row ht
  have htl : t < M.length := (List.getElem?_eq_some_iff.1 ht).1
  have x0 := hb.cell 0
  have zb := hb.lt
  simp only [List.getElem?_toArray, List.getElem?_cons_zero] at x0
  have t0 : (0 : Int) ≤ (t : Int) := Int.natCast_nonneg _
  have t1 : (t : Int) < (M.length : Int) := by omega
  generalize M.length = ML at *
  have HROW := Lib.hid hrow
  obtain ⟨A, c2, rfl, _⟩ := hrow.val
  clear hrow h ht
  go_enter Try.func69, Try.ntmps69
  go_wp2
  go_loop [4, 12] (fun n i => ∃ k : Nat, k ≤ row.length ∧ i = .int .i64 k ∧ n = .int .i64 (manyTo row k : Int)) (fun _ i => row.length - (intOf i).toNat)
  case atStart => exact ⟨0, Nat.zero_le _, rfl, rfl⟩
  case round =>
    obtain ⟨k, hk, rfl, rfl⟩ := hrel
    by_cases hlt : k < row.length
    · obtain ⟨x, hx⟩ : ∃ x, row[k]? = some x := ⟨_, List.getElem?_eq_getElem hlt⟩
      obtain ⟨b3, o3, c3, e3, _, hb3, d0⟩ := HROW.out.at_ hx
      obtain ⟨rfl, _, rfl⟩ : A = some ⟨b3, o3, none⟩ ∧ True ∧ c2 = c3 := by simpa using e3
      have hs := manyTo_s hx
      have hml := manyTo_le row k
      have hk0 : (0 : Int) ≤ (k : Int) := Int.natCast_nonneg _
      have hk1 : (k : Int) < (row.length : Int) := by omega
      clear e3 hx
      generalize manyTo row k = m at *
      cases x
      · go_wp2
        go_round
        case rel => exact ⟨k + 1, by omega, by go_num, by rw [hs]; rfl⟩
        case measure => simp [intOf]; omega
      · go_wp2
        go_round
        case rel => exact ⟨k + 1, by omega, by go_num, by rw [hs]; go_num⟩
        case measure => simp [intOf]; omega
    · obtain rfl : k = row.length := by omega
      go_wp2
      go_ret
      exact ⟨rfl, rfl⟩

theorem more_any (R : Nat → Prop) (bm bn : Nat) (v : Value) (M : List (List Bool)) (a b : Nat) (ra rb : List Bool) (w : World) (hm : Blk w bm 125 #[.func (.func 69) #[] #[.pointer (some ⟨bn, 0, none⟩)]]) (hb : Blk w bn 38 #[v]) (h : RdM w R v M)
    (ha : M[a]? = some ra) (hbb : M[b]? = some rb) (h1 : ra.length ≤ 100) (h2 : rb.length ≤ 100) :
    Calls Try.prog 71 #[.int .i64 (a : Int), .int .i64 (b : Int), .pointer (some ⟨bm, 0, none⟩)] w fun e w' => e = .returned (.int .i64 ((manyL rb : Int) - (manyL ra : Int))) ∧ ∃ q, w' = w.drewN q := by
  have A1 := manyTo_le ra ra.length
  have A2 := manyTo_le rb rb.length
  have k1 : ∀ n, Calls Try.prog 69 #[.int .i64 (a : Int), .pointer (some ⟨bn, 0, none⟩)] (w.drewN n) fun e w' => e = .returned (.int .i64 (manyL ra : Int)) ∧ w' = w.drewN n := fun n => many_any R bn v M a ra _ (hb.kept ((Kept.refl (fun _ => False) w).drewN n) (fun h => h)) (h.kept ((Kept.refl (fun _ => False) w).drewN n) (fun _ _ h => h)) ha h1
  have k2 : ∀ n, Calls Try.prog 69 #[.int .i64 (b : Int), .pointer (some ⟨bn, 0, none⟩)] (w.drewN n) fun e w' => e = .returned (.int .i64 (manyL rb : Int)) ∧ w' = w.drewN n := fun n => many_any R bn v M b rb _ (hb.kept ((Kept.refl (fun _ => False) w).drewN n) (fun h => h)) (h.kept ((Kept.refl (fun _ => False) w).drewN n) (fun _ _ h => h)) hbb h2
  have x0 := hm.cell 0
  simp only [List.getElem?_toArray, List.getElem?_cons_zero] at x0
  have zb := hm.lt
  clear hm hb h ha hbb
  change manyL ra ≤ _ at A1
  change manyL rb ≤ _ at A2
  generalize manyL ra = ma at *
  generalize manyL rb = mb at *
  go_enter Try.func71, Try.ntmps71
  go_wp2_with fail
  refine wp_region_quiet_lit (by kernel_rfl) (by kernel_rfl) ?_
  quiet_step (fail)
  quiet_step (fail)
  quiet_step (refine Calls.quiet_of_same (k2 _))
  quiet_step (fail)
  quiet_step (fail)
  quiet_step (refine Calls.quiet_of_same (k1 _))
  repeat (quiet_step (fail))
  refine wpQuiet_nil ?_
  intro _ hw'
  obtain ⟨nq, hw''⟩ := hw'
  subst hw''
  go_wp2
  go_ret
  refine ⟨ret_i ?_, nq, rfl⟩
  simp [IntKind.wrap, IntKind.bits, IntKind.signed]; omega
end Go.Proofs.Ytodmkjeankbieab

/- The sort of temporaries, those with the most neighbours first. -/
namespace Go.Proofs.Ytodmkjeankbieab
open Go.RowKit Go.Sort Go.Shelf

theorem kept_sortWorld {α : Type} [Inhabited α] (enc : α → Value) (w : World) (blk off m : Nat) (dk : Array α) (os : Array Obj) : Kept (fun k => k = blk) w (sortWorld enc w blk off m dk os) := by
  refine ⟨rfl, rfl, rfl, ?_, fun i hi hne => ?_⟩
  · simp [sortWorld, grow, putRow, mapBlock, Sort.ahead]
  · simp only [sortWorld, grow, putRow, mapBlock, Sort.ahead, Array.getElem?_append, Array.size_modify, Array.getElem?_modify]
    rw [if_pos hi, if_neg (fun e => hne e.symm)]
theorem kept_putRow {α : Type} [Inhabited α] (enc : α → Value) (w : World) (blk off : Nat) (dk : Array α) : Kept (fun k => k = blk) w (putRow enc w blk off dk) := by
  refine ⟨rfl, rfl, rfl, ?_, fun i hi hne => ?_⟩
  · simp [putRow, mapBlock]
  · simp only [putRow, mapBlock, Array.getElem?_modify]
    rw [if_neg (fun e => hne e.symm)]

def encF {n : Nat} (i : Fin n) : Value := .int .i64 ((i.val : Nat) : Int)
/-- of two temporaries: how many more are near the second one -/
def cfM (M : List (List Bool)) {n : Nat} (x y : Fin n) : Int := (manyL (M.getD y.val []) : Int) - (manyL (M.getD x.val []) : Int)

set_option maxHeartbeats 1000000 in
set_option maxRecDepth 100000 in
theorem sortStable_any (R : Nat → Prop) (bm bn blk cap W0 : Nat) (v : Value) (M : List (List Bool)) (d : Array (Fin (W0 + 1))) (w : World) (hm : Blk w bm 125 #[.func (.func 69) #[] #[.pointer (some ⟨bn, 0, none⟩)]]) (hb : Blk w bn 38 #[v]) (h : RdM w R v M)
    (hM : M.length = W0 + 1) (hrow : ∀ r ∈ M, r.length ≤ 100) (hR : ¬ R blk) (h1 : bm ≠ blk) (h2 : bn ≠ blk) (hH : Go.Sort.Holds encF w blk 0 d) (hsz : d.size ≤ 12) :
    Calls Try.prog 70 #[.slice (some ⟨blk, 0, none⟩) d.size cap, .func (.func 71) #[] #[.pointer (some ⟨bm, 0, none⟩)]] w fun e w' => e = .returned (.tuple #[]) ∧ ∃ n, w' = (putRow encF w blk 0 (Sort.insertionSort (ltOf (cfM M)) d 0 d.size)).drewN n := by
  have hcmp : CmpReads Try.prog 71 #[.pointer (some ⟨bm, 0, none⟩)] (encF (n := W0 + 1)) (cfM M) blk 0 d.size w := by
    intro m os dk hdk x y
    have hk := kept_sortWorld (encF (n := W0 + 1)) w blk 0 m dk os
    have hx : M[x.val]? = some (M.getD x.val []) := by
      have := x.isLt
      rw [List.getD_eq_getElem?_getD, List.getElem?_eq_getElem (by omega)]; rfl
    have hy : M[y.val]? = some (M.getD y.val []) := by
      have := y.isLt
      rw [List.getD_eq_getElem?_getD, List.getElem?_eq_getElem (by omega)]; rfl
    exact more_any R bm bn v M x.val y.val _ _ _ (hm.kept hk h1) (hb.kept hk h2) (h.kept hk (fun b hb e => hR (e ▸ hb))) hx hy (hrow _ (List.mem_of_getElem? hx)) (hrow _ (List.mem_of_getElem? hy))
  have HI := Lib.hid (Any.insertionSortCmpFunc_one sortLays (encF (n := W0 + 1)) (fun _ => rfl) (cfM M) 71 #[.pointer (some ⟨bm, 0, none⟩)] blk 0 cap 0 d.size d w (fun args w => by kernel_rfl) hcmp hH (Nat.zero_le _) (Nat.le_refl _) (by omega))
  have hrn : sortRen.f 20 = 124 := rfl
  rw [hrn] at HI
  have HS : Hid (Calls Try.prog 100 #[.slice (some ⟨blk, 0, none⟩) d.size cap, .int .i64 (d.size : Int), .func (.func 71) #[] #[.pointer (some ⟨bm, 0, none⟩)]] w fun e w' => e = .returned (.tuple #[]) ∧ ∃ n, w' = (putRow encF w blk 0 (Sort.insertionSort (ltOf (cfM M)) d 0 d.size)).drewN n) := by
    show Calls _ _ _ _ _
    generalize (Sort.insertionSort (ltOf (cfM M)) d 0 d.size) = d' at *
    generalize hn : d.size = n at *
    clear hn hH hcmp h hm hb hM hrow
    have hn0 : ¬ (20 : Int) ≤ (n : Int) := by omega
    have hn1 : ¬ (20 : Int) < (n : Int) := by omega
    go_enter Try.func100, Try.ntmps100
    go_wp2
    go_loop [7, 8] (fun a b => a = .int .i64 0 ∧ b = .int .i64 20) (fun _ _ => 0)
    case atStart => exact ⟨rfl, rfl⟩
    case round =>
      obtain ⟨rfl, rfl⟩ := hrel
      go_wp2_with fail
      refine HI.out.mono ?_
      rintro e w2 ⟨rfl, q, rfl⟩
      go_wp2
      go_loop [6, 7, 8] (fun a b c => a = .int .i64 20) (fun _ _ _ => 0)
      case atStart => exact rfl
      case round =>
        subst hrel
        go_wp2
        go_end0
        exact ⟨rfl, q, rfl⟩
  clear HI hcmp hm hb h hH
  generalize (Sort.insertionSort (ltOf (cfM M)) d 0 d.size) = d' at *
  generalize hn : d.size = n at *
  clear hn
  go_enter Try.func70, Try.ntmps70
  go_wp2_with fail
  refine HS.out.mono ?_
  rintro e w2 ⟨rfl, q, rfl⟩
  go_wp2
  go_end0
  exact ⟨rfl, q, rfl⟩
end Go.Proofs.Ytodmkjeankbieab

/- The walk of place.Overlap. -/
namespace Go.Proofs.Ytodmkjeankbieab
open Go.RowKit

theorem ret_bool {a b : Bool} (h : a = b) : Ending.returned (.bool a) = .returned (.bool b) := by rw [h]

/-- do two places overlap? -/
def ov (k1 n1 k2 n2 : Int) : Bool :=
  if k1 = 2 ∧ k2 = 1 then n2 / 2 == n1 else if k1 = 1 ∧ k2 = 2 then n1 / 2 == n2 else decide (k1 = k2 ∧ n1 = n2)

theorem below2 {w : World} (o1 o2 : Obj) : Below w.heap.size w ((w.alloc o1).alloc o2) :=
  ((Below.refl _ _).alloc (Nat.le_refl _) _).alloc (by simp) _
theorem below1 {w : World} (o1 : Obj) : Below w.heap.size w (w.alloc o1) :=
  (Below.refl _ _).alloc (Nat.le_refl _) _

set_option maxHeartbeats 400000 in
theorem overlap_any (k1 n1 k2 n2 : Int) (w : World) :
    Calls Try.prog 72 #[.agg #[.int .i64 k1, .int .i64 n1], .agg #[.int .i64 k2, .int .i64 n2]] w fun e w' => e = .returned (.bool (ov k1 n1 k2 n2)) ∧ Below w.heap.size w w' := by
  by_cases h1 : k1 = 2 ∧ k2 = 1
  · obtain ⟨rfl, rfl⟩ := h1
    go_enter Try.func72, Try.ntmps72
    go_wp2
    go_ret
    refine ⟨rfl, ?_⟩
    repeat (first | exact Below.refl _ _ | exact below2 _ _ | refine Below.setCell ?_ (by simp) _ | refine Below.alloc ?_ (by simp) _)
  · by_cases h2 : k1 = 1 ∧ k2 = 2
    · obtain ⟨rfl, rfl⟩ := h2
      go_enter Try.func72, Try.ntmps72
      go_wp2
      go_ret
      exact ⟨rfl, below2 _ _⟩
    · by_cases h3 : k1 = k2 ∧ n1 = n2
      · obtain ⟨rfl, rfl⟩ := h3
        have hn : ov k1 n1 k1 n1 = true := by unfold ov; rw [if_neg h1, if_neg h2]; simp
        clear h1 h2
        rw [hn]
        clear hn
        go_enter Try.func72, Try.ntmps72
        go_wp2
        all_goals go_ret
        all_goals exact ⟨rfl, below2 _ _⟩
      · have hn : ov k1 n1 k2 n2 = false := by unfold ov; rw [if_neg h1, if_neg h2]; exact decide_eq_false h3
        rw [hn]
        have g1 : ¬ (k1 = 2 ∧ k2 = 1) := h1
        have g2 : ¬ (k1 = 1 ∧ k2 = 2) := h2
        clear hn h1 h2
        by_cases e1 : k1 = 2 <;> by_cases e2 : k1 = 1 <;> by_cases e3 : k2 = 1 <;> by_cases e4 : k2 = 2
        all_goals first | (exfalso; omega) | skip
        all_goals
          clear g1 g2
          go_enter Try.func72, Try.ntmps72
          go_wp2
        all_goals go_ret
        all_goals exact ⟨rfl, below2 _ _⟩
end Go.Proofs.Ytodmkjeankbieab

/- Registers for temporaries, as the program gives them; rows of places in memory. -/
namespace Go.Proofs.Ytodmkjeankbieab
open Go.RowKit Go.Sort Go.Shelf

theorem swoM (M : List (List Bool)) (n : Nat) : SWO (ltOf (cfM M (n := n))) := by
  constructor
  · intro x; unfold ltOf cfM; simp
  · intro x y z h1 h2
    unfold ltOf cfM at *
    simp only [decide_eq_true_eq] at *
    omega
  · intro x y z h1 h2
    unfold ltOf cfM at *
    simp only [decide_eq_false_iff_not] at *
    omega
def ordA (M : List (List Bool)) (W0 : Nat) : Array (Fin (W0 + 1)) := Sort.insertionSort (ltOf (cfM M)) (Array.ofFn fun i => i) 0 (W0 + 1)
theorem ordA_size (M : List (List Bool)) (W0 : Nat) : (ordA M W0).size = W0 + 1 := by
  have := (insertionSort_holds (lt := ltOf (cfM M (n := W0 + 1))) (swoM M _) (Array.ofFn fun i => i) 0 (W0 + 1) (Nat.zero_le _) (by simp)).1.1
  simpa [ordA] using this
/-- the temporaries in the order in which they are served -/
noncomputable def ordL (p : Pg) : List Nat := (ordA (nearM p) (p.wide.length - 1)).toList.map (·.val)
theorem ordL_len {p : Pg} (h : 1 ≤ p.wide.length) : (ordL p).length = p.wide.length := by
  unfold ordL; rw [List.length_map, Array.length_toList, ordA_size]; omega
theorem ordL_lt {p : Pg} (h : 1 ≤ p.wide.length) {t : Nat} (ht : t ∈ ordL p) : t < p.wide.length := by
  unfold ordL at ht
  obtain ⟨x, _, rfl⟩ := List.mem_map.1 ht
  have := x.isLt; omega

def roomOf (p : Pg) (sg t : Nat) : Nat := if wd p.wide (t : Int) then sg / 2 else sg
def regK (p : Pg) (t k : Nat) : PlaceV := ⟨if wd p.wide (t : Int) then 2 else 1, (k : Int)⟩
/-- none of the first k registers goes -/
def NoneTo (p : Pg) (o : Nat → PlaceV) (t k : Nat) : Prop := ∀ j, j < k → freeTo p o t (regK p t j) p.wide.length = false
open Classical in
/-- one temporary is served -/
noncomputable def stepC (p : Pg) (sg : Nat) (o : Nat → PlaceV) (t : Nat) : Nat → PlaceV :=
  match (List.range (roomOf p sg t)).find? (fun k => freeTo p o t (regK p t k) p.wide.length) with
  | some k => updP o t (regK p t k)
  | none => o
theorem find_range {f : Nat → Bool} : ∀ {n k : Nat}, k < n → f k = true → (∀ j, j < k → f j = false) → (List.range n).find? f = some k
  | 0, _, h, _, _ => by omega
  | n + 1, k, h, h1, h2 => by
    rw [List.range_succ, List.find?_append]
    by_cases e : k = n
    · subst e
      have : (List.range k).find? f = none := by
        rw [List.find?_eq_none]
        intro x hx
        rw [h2 x (List.mem_range.1 hx)]; simp
      rw [this]; simp [h1]
    · rw [find_range (by omega) h1 h2]; rfl
theorem stepC_some {p : Pg} {sg : Nat} {o : Nat → PlaceV} {t k : Nat} (h : NoneTo p o t k) (hk : k < roomOf p sg t) (hf : freeTo p o t (regK p t k) p.wide.length = true) : stepC p sg o t = updP o t (regK p t k) := by
  unfold stepC
  rw [find_range hk hf h]
theorem stepC_none {p : Pg} {sg : Nat} {o : Nat → PlaceV} {t : Nat} (h : NoneTo p o t (roomOf p sg t)) : stepC p sg o t = o := by
  unfold stepC
  have : (List.range (roomOf p sg t)).find? (fun k => freeTo p o t (regK p t k) p.wide.length) = none := by
    rw [List.find?_eq_none]
    intro x hx
    rw [h x (List.mem_range.1 hx)]; simp
  rw [this]
/-- the registers that color.Make gives -/
noncomputable def colF (p : Pg) (sg : Nat) : Nat → PlaceV := (ordL p).foldl (stepC p sg) (fun _ => ⟨0, 0⟩)
theorem regK_reg {p : Pg} {sg t k : Nat} (h : k < roomOf p sg t) : IsReg p (sg : Int) 0 (t : Int) (regK p t k) := by
  unfold IsReg regK isB
  unfold roomOf at h
  cases hw : wd p.wide (t : Int) with
  | true => rw [hw] at h; simp at h ⊢; omega
  | false => rw [hw] at h; simp at h ⊢; omega
theorem stepC_ok {p : Pg} {sg : Nat} {o : Nat → PlaceV} (h : ColAt p (sg : Int) o) (t : Nat) : ColAt p (sg : Int) (stepC p sg o t) := by
  unfold stepC
  cases hf : (List.range (roomOf p sg t)).find? (fun k => freeTo p o t (regK p t k) p.wide.length) with
  | none => exact h
  | some k =>
    have h1 := List.find?_some hf
    have h2 := List.mem_range.1 (List.mem_of_find?_eq_some hf)
    exact h.put (regK_reg h2) h1
theorem fold_ok {p : Pg} {sg : Nat} : ∀ (l : List Nat) {o : Nat → PlaceV}, ColAt p (sg : Int) o → ColAt p (sg : Int) (l.foldl (stepC p sg) o)
  | [], _, h => h
  | t :: l, _, h => fold_ok l (stepC_ok h t)
theorem colF_ok (p : Pg) (sg : Nat) : ColAt p (sg : Int) (colF p sg) := fold_ok _ (ColAt.zero p _)

/-! ### rows of places -/
def mkP (n : Nat) (o : Nat → PlaceV) : Array Value := ((List.range n).flatMap fun t => (o t).cells).toArray
theorem mkP_get {n : Nat} {o : Nat → PlaceV} {t j : Nat} (ht : t < n) (hj : j < 2) : (mkP n o)[t * 2 + j]? = ((o t).cells)[j]? := by
  unfold mkP
  rw [List.getElem?_toArray]
  have := flat_get (fun t => (o t).cells) 2 (fun _ => rfl) (List.range n) t j t (List.getElem?_range ht) hj
  exact this
theorem mkP_at {n : Nat} {o : Nat → PlaceV} {t : Nat} (ht : t < n) : (mkP n o)[t * 2]? = some (.int .i64 (o t).k) ∧ (mkP n o)[t * 2 + 1]? = some (.int .i64 (o t).n) :=
  ⟨by have := mkP_get (o := o) ht (j := 0) (by omega); simpa [PlaceV.cells] using this, by have := mkP_get (o := o) ht (j := 1) (by omega); simpa [PlaceV.cells] using this⟩
theorem mkP_size (n : Nat) (o : Nat → PlaceV) : (mkP n o).size = n * 2 := by
  unfold mkP
  have := flat_len (fun t => (o t).cells) 2 (fun _ => rfl) (List.range n)
  simpa using this
theorem mkP_set {n : Nat} {o : Nat → PlaceV} {t : Nat} {a : PlaceV} : ((mkP n o).setIfInBounds (t * 2) (.int .i64 a.k)).setIfInBounds (t * 2 + 1) (.int .i64 a.n) = mkP n (updP o t a) := by
  apply Array.ext_getElem?
  intro i
  have hs := mkP_size n o
  have hs2 := mkP_size n (updP o t a)
  by_cases hi : i < n * 2
  · obtain ⟨s, j, hj, rfl⟩ : ∃ s j, j < 2 ∧ i = s * 2 + j := ⟨i / 2, i % 2, by omega, by omega⟩
    have hsn : s < n := by omega
    rw [mkP_get hsn hj]
    simp only [Array.getElem?_setIfInBounds, Array.size_setIfInBounds]
    by_cases e : s = t
    · subst e
      have hj2 : j = 0 ∨ j = 1 := by omega
      rcases hj2 with rfl | rfl
      · rw [if_neg (by omega), if_pos (by omega), if_pos (by omega)]; simp [updP, PlaceV.cells]
      · rw [if_pos rfl, if_pos (by omega)]; simp [updP, PlaceV.cells]
    · rw [if_neg (by omega), if_neg (by omega), mkP_get hsn hj]; simp [updP, e]
  · rw [Array.getElem?_eq_none (by simp; omega), Array.getElem?_eq_none (by omega)]
theorem made_mkP (n : Nat) : madeCells #[.int .i64 0, .int .i64 0] (n * 2) = mkP n (fun _ => ⟨0, 0⟩) := by
  apply Array.ext_getElem?
  intro i
  have hm := mkP_size n (fun _ => ⟨0, 0⟩)
  by_cases hi : i < n * 2
  · obtain ⟨s, j, hj, rfl⟩ : ∃ s j, j < 2 ∧ i = s * 2 + j := ⟨i / 2, i % 2, by omega, by omega⟩
    rw [mkP_get (by omega) hj]
    have hj2 : j = 0 ∨ j = 1 := by omega
    unfold madeCells
    rw [Array.getElem?_map, Array.getElem?_eq_getElem (by simpa using hi), Array.getElem_range]
    rcases hj2 with rfl | rfl
    · have h2 : s * 2 % 2 = 0 := by omega
      simp [PlaceV.cells]
    · have h2 : (s * 2 + 1) % 2 = 1 := by omega
      simp [PlaceV.cells, h2]
  · have h1 : (mkP n (fun _ => ⟨0, 0⟩))[i]? = none := Array.getElem?_eq_none (by omega)
    rw [h1]
    unfold madeCells
    simp; omega
theorem infoPlace : (Try.prog.info? 57).map (fun i => (i.zero, i.size, i.bytes)) = some (some (.agg #[.int .i64 0, .int .i64 0]), 2, 16) := by kernel_rfl
theorem run_make_places (n : Nat) (h : n ≤ 1000000) (w : World) : (Instr.makeSlice 61 (.int .i64 (n : Int)) (.int .i64 (n : Int))).run Try.prog w = .ok (.slice (some ⟨w.heap.size, 0, none⟩) n n) (w.alloc (.cells (mkP n fun _ => ⟨0, 0⟩) 57)) := by
  obtain ⟨i, hi, hzz⟩ := Option.map_eq_some_iff.1 infoPlace
  simp only [Prod.mk.injEq] at hzz
  obtain ⟨hz, hs, hb⟩ := hzz
  have := run_makeSlice (P := Try.prog) w 61 57 i _ Try.underlying61 hi hz .i64 .i64 (n : Int) (n : Int) (by omega) (Int.le_refl _) (by rw [hs]; simp; omega) (by rw [hb]; omega) (by omega)
  rw [hs] at this
  simp only [Int.toNat_natCast, Value.cells] at this
  rw [this, made_mkP]
theorem Blk.pset {w : World} {g : Nat} {e : TypeId} {n : Nat} {o : Nat → PlaceV} (h : Blk w g e (mkP n o)) (t : Nat) (a : PlaceV) : Blk ((w.setCell ⟨g, t * 2, none⟩ (.int .i64 a.k)).setCell ⟨g, t * 2 + 1, none⟩ (.int .i64 a.n)) g e (mkP n (updP o t a)) := by
  have := (h.set_ (t * 2) (.int .i64 a.k)).set_ (t * 2 + 1) (.int .i64 a.n)
  rwa [mkP_set] at this
end Go.Proofs.Ytodmkjeankbieab
