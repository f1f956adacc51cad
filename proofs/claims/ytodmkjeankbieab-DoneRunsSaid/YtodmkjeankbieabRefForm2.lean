/- The walks of the reference of chapter 2: ins, May. -/
import Derived.Test.YtodmkjeankbieabRefForm
namespace Go.Proofs.Ytodmkjeankbieab
open Go.RowKit Go.Sort

theorem insR_k0 {p : Pg} {i : In} (h : known i.op = false) : insR p i = false := by unfold insR; simp [h]
theorem insR_n0 {p : Pg} {i : In} (h : i.op ≠ 1) (hn : i.n ≠ 0) : insR p i = false := by unfold insR; simp [h, hn]
theorem insR_f0 {p : Pg} {i : In} (h : fieldR p.wide (gvs i.op) i.d = false) : insR p i = false := by unfold insR; simp [h]
theorem insR_f1 {p : Pg} {i : In} (h : fieldR p.wide (decide (0 < many i.op)) i.a = false) : insR p i = false := by unfold insR; simp [h]
theorem insR_f2 {p : Pg} {i : In} (h : fieldR p.wide (decide (1 < many i.op)) i.b = false) : insR p i = false := by unfold insR; simp [h]
theorem insR_rest {p : Pg} {i : In} (hk : known i.op = true) (hn : i.op = 1 ∨ i.n = 0) (h0 : fieldR p.wide (gvs i.op) i.d = true) (h1 : fieldR p.wide (decide (0 < many i.op)) i.a = true) (h2 : fieldR p.wide (decide (1 < many i.op)) i.b = true) :
    insR p i = ((if i.op = 8 ∨ i.op = 9 then inB i.c p.code.length else decide (i.c = 0)) && widthsR p i) := by
  unfold insR
  have e : (decide (i.op = 1) || decide (i.n = 0)) = true := by simpa using hn
  rw [hk, e, h0, h1, h2]; simp

structure RfMem (w wr : World) (vw vc : Value) (i : In) (g m0 m1 : Bool) : Prop where
  im : InsMem w wr vw vc i
  f : Blk wr (w.heap.size + 2) 3 #[.int .i64 i.d, .int .i64 i.a, .int .i64 i.b]
  t : Blk wr (w.heap.size + 3) 4 #[.bool g, .bool m0, .bool m1]
theorem RfMem.start (w : World) (vw vc : Value) (op d a b c : Int) (n : Nat) (g m0 m1 : Bool) :
    RfMem w (((((w.alloc (.cells #[vw, vc] 25)).alloc (.cells #[.int .i64 op, .int .i64 d, .int .i64 a, .int .i64 b, .int .i64 c, .int .u32 n] 45)).alloc (.cells #[.int .i64 d, .int .i64 a, .int .i64 b] 3)).alloc
      (.cells #[.bool g, .bool m0, .bool m1] 4)).drew) vw vc ⟨op, d, a, b, c, n⟩ g m0 m1 := by
  have h := InsMem.start w vw vc op d a b c n
  generalize hW : ((w.alloc (.cells #[vw, vc] 25)).alloc (.cells #[.int .i64 op, .int .i64 d, .int .i64 a, .int .i64 b, .int .i64 c, .int .u32 n] 45)) = W at h
  have hs : W.heap.size = w.heap.size + 2 := by rw [← hW]; simp
  refine ⟨((h.alloc _).alloc _).drew, ?_, ?_⟩
  · have := ((Blk.new W 3 #[.int .i64 d, .int .i64 a, .int .i64 b]).alloc (.cells #[.bool g, .bool m0, .bool m1] 4)).drew
    rwa [hs] at this
  · have := (Blk.new (W.alloc (.cells #[.int .i64 d, .int .i64 a, .int .i64 b] 3)) 4 #[.bool g, .bool m0, .bool m1]).drew
    simp only [World.size_alloc, hs] at this
    exact this

/-- what the loop over the fields holds -/
def RfRel (p : Pg) (d a b : Int) (g m0 m1 : Bool) (k : Int) : Prop :=
  k = 0 ∨ (k = 1 ∧ fieldR p.wide g d = true) ∨ (k = 2 ∧ fieldR p.wide g d = true ∧ fieldR p.wide m0 a = true) ∨ (k = 3 ∧ fieldR p.wide g d = true ∧ fieldR p.wide m0 a = true ∧ fieldR p.wide m1 b = true)
theorem field_cases (wide : List Bool) (g : Bool) (n : Int) : (g = true ∧ 0 ≤ n ∧ n < wide.length ∧ fieldR wide g n = true) ∨ (g = true ∧ n < 0 ∧ fieldR wide g n = false) ∨ (g = true ∧ 0 ≤ n ∧ (wide.length : Int) ≤ n ∧ fieldR wide g n = false) ∨
    (g = false ∧ n = 0 ∧ fieldR wide g n = true) ∨ (g = false ∧ (n != 0) = true ∧ fieldR wide g n = false) := by
  unfold fieldR inB
  cases g with
  | true =>
    by_cases h0 : 0 ≤ n
    · by_cases h1 : n < wide.length
      · exact Or.inl ⟨rfl, h0, h1, by simp [h0, h1]⟩
      · exact Or.inr (Or.inr (Or.inl ⟨rfl, h0, by omega, by simp [h1]⟩))
    · exact Or.inr (Or.inl ⟨rfl, by omega, by simp [h0]⟩)
  | false =>
    by_cases h : n = 0
    · exact Or.inr (Or.inr (Or.inr (Or.inl ⟨rfl, h, by simp [h]⟩)))
    · exact Or.inr (Or.inr (Or.inr (Or.inr ⟨rfl, by simpa using h, by simp [h]⟩)))
theorem field_in {wide : List Bool} {g : Bool} {n : Int} (h : fieldR wide g n = true) (hg : g = true) : 0 ≤ n ∧ n < wide.length := by
  unfold fieldR inB at h; rw [if_pos hg] at h; exact of_decide_eq_true h
theorem jump_cases (op : Int) : (op == 8) = true ∨ ((op == 8) = false ∧ (op == 9) = true) ∨ ((op == 8) = false ∧ (op == 9) = false) := by
  cases h8 : (op == 8) <;> cases h9 : (op == 9) <;> simp
theorem rest_jump {p : Pg} {op d a b c : Int} {n : Nat} {W : Bool} (h : insR p ⟨op, d, a, b, c, n⟩ = ((if op = 8 ∨ op = 9 then inB c p.code.length else decide (c = 0)) && W)) (hj : op = 8 ∨ op = 9) :
    (0 ≤ c ∧ c < p.code.length → insR p ⟨op, d, a, b, c, n⟩ = W) ∧ (c < 0 ∨ (p.code.length : Int) ≤ c → insR p ⟨op, d, a, b, c, n⟩ = false) := by
  rw [h, if_pos hj]
  unfold inB
  exact ⟨fun hc => by rw [decide_eq_true hc]; rfl, fun hc => by rw [decide_eq_false (by omega)]; rfl⟩
theorem rest_nojump {p : Pg} {op d a b c : Int} {n : Nat} {W : Bool} (h : insR p ⟨op, d, a, b, c, n⟩ = ((if op = 8 ∨ op = 9 then inB c p.code.length else decide (c = 0)) && W)) (h8 : (op == 8) = false) (h9 : (op == 9) = false) :
    (c = 0 → insR p ⟨op, d, a, b, c, n⟩ = W) ∧ (c ≠ 0 → insR p ⟨op, d, a, b, c, n⟩ = false) := by
  rw [beq_eq_false_iff_ne] at h8 h9
  rw [h, if_neg (by omega)]
  exact ⟨fun hc => by rw [decide_eq_true hc]; rfl, fun hc => by rw [decide_eq_false hc]; rfl⟩
theorem RfMem.cf {w wr : World} {vw vc : Value} {op d a b c : Int} {n : Nat} {g m0 m1 : Bool} (h : RfMem w wr vw vc ⟨op, d, a, b, c, n⟩ g m0 m1) : wr.cell? ⟨w.heap.size + 2, 0, none⟩ = some (.int .i64 d) ∧ wr.cell? ⟨w.heap.size + 2, 1, none⟩ = some (.int .i64 a) ∧
    wr.cell? ⟨w.heap.size + 2, 2, none⟩ = some (.int .i64 b) ∧ wr.cell? ⟨w.heap.size + 3, 0, none⟩ = some (.bool g) ∧ wr.cell? ⟨w.heap.size + 3, 1, none⟩ = some (.bool m0) ∧ wr.cell? ⟨w.heap.size + 3, 2, none⟩ = some (.bool m1) := by
  have c0 := h.f.cell 0
  have c1 := h.f.cell 1
  have c2 := h.f.cell 2
  have c3 := h.t.cell 0
  have c4 := h.t.cell 1
  have c5 := h.t.cell 2
  simp only [List.getElem?_toArray, List.getElem?_cons_succ, List.getElem?_cons_zero] at c0 c1 c2 c3 c4 c5
  exact ⟨c0, c1, c2, c3, c4, c5⟩

set_option maxHeartbeats 4000000 in
set_option maxRecDepth 100000 in
theorem refIns_any (R : Nat → Prop) (v : Value) (p : Pg) (i : In) (w : World) (h : RdPg w R v p) :
    Calls Try.prog 49 #[v, i.val] w fun e w' => e = .returned (.bool (insR p i)) ∧ Fr w w' := by
  have H := Lib.hid h
  obtain ⟨vw, vc, rfl, ⟨A, c, rfl, hl, hr⟩, ⟨A', c', rfl, hl', hr', ho'⟩⟩ := h
  unfold maxLen at hl hl'
  clear hr hr' ho'
  obtain ⟨op, d, a, b, cc, n⟩ := i
  unfold In.val
  simp only
  have HKn := Lib.hid (refKnown_any op)
  cases hk : known op with
  | false =>
    have hfin := Lib.hid (insR_k0 (p := p) (i := ⟨op, d, a, b, cc, n⟩) hk)
    rw [hk] at HKn
    clear hk
    go_enter Try.func49, Try.ntmps49
    go_wp2_with (go_at_call 85; refine (HKn.out _).mono ?_; rintro e w' ⟨rfl, rfl⟩)
    go_ret
    exact ⟨ret_b hfin.out.symm, ((Kept.refl _ w).alloc _).alloc _⟩
  | true =>
    by_cases hn : op ≠ 1 ∧ n ≠ 0
    · have hfin := Lib.hid (insR_n0 (p := p) (i := ⟨op, d, a, b, cc, n⟩) hn.1 hn.2)
      have e1 : (op != 1) = true := by simpa using hn.1
      have e2 : ((n : Int) != 0) = true := by simpa using hn.2
      rw [hk] at HKn
      clear hk hn
      go_enter Try.func49, Try.ntmps49
      go_wp2_with (go_at_call 85; refine (HKn.out _).mono ?_; rintro e w' ⟨rfl, rfl⟩)
      go_ret
      exact ⟨ret_b hfin.out.symm, ((Kept.refl _ w).alloc _).alloc _⟩
    · have HK := Lib.hid hk
      have HN := Lib.hid (show op = 1 ∨ n = 0 by omega)
      have hen : op = 1 ∨ (op != 1) = true ∧ n = 0 := by
        by_cases h : op = 1
        · exact Or.inl h
        · exact Or.inr ⟨by simpa using h, by omega⟩
      rw [hk] at HKn
      clear hk hn
      have HG := Lib.hid (refGives_any op)
      have HM := Lib.hid (refMany_any op)
      have hen1 : (op != 1) = false ∨ ((op != 1) = true ∧ n = 0) := by
        rcases hen with h | h
        · exact Or.inl (by simpa using h)
        · exact Or.inr h
      clear hen
      go_enter Try.func49, Try.ntmps49
      rcases hen1 with e1 | ⟨e1, hn0⟩
      case' inr => have hn1 : ((n : Int) != 0) = false := by simpa using hn0
      case' inr => clear hn0
      all_goals
        go_wp2_with (go_at_call 85; refine (HKn.out _).mono ?_; rintro e w' ⟨rfl, rfl⟩)
      all_goals
        go_region_held3 (fun w' => w'.cell? ⟨w.heap.size + 1, 0, none⟩ = some (.int .i64 op))
          (first | go_keep)
          (first
            | (go_at_call 44; refine (HG.out _).mono ?_; rintro e w' ⟨rfl, rfl⟩)
            | (go_at_call 66; refine (HM.out _).mono ?_; rintro e w' ⟨rfl, rfl⟩))
      all_goals
        have em1 : decide ((1 : Int) < (many op : Int)) = decide (1 < many op) := by rw [decide_eq_decide]; omega
        rw [em1]
        have HS := Lib.hid (RfMem.start w (.slice A p.wide.length c) (.slice A' p.code.length c') op d a b cc n (gvs op) (decide (0 < many op)) (decide (1 < many op)))
        clear em1
        generalize hg : gvs op = g at *
        generalize hm0 : decide (0 < many op) = m0 at *
        generalize hm1 : decide (1 < many op) = m1 at *
        have Hg := Lib.hid hg
        have Hm0 := Lib.hid hm0
        have Hm1 := Lib.hid hm1
        clear hg hm0 hm1 HG HM HKn
        go_wp2
        go_loopw [8] (fun i wr => ∃ k : Int, i = .int .i64 k ∧ Hid (RfRel p d a b g m0 m1 k) ∧ Hid (RfMem w wr (.slice A p.wide.length c) (.slice A' p.code.length c') ⟨op, d, a, b, cc, n⟩ g m0 m1)) (fun i _ => 3 - (intOf i).toNat)
        case atStart => exact ⟨0, rfl, Or.inl rfl, HS.out⟩
        case round =>
          obtain ⟨k, rfl, hrel, hmem⟩ := hrel
          clear HS
          obtain ⟨f0, f1, f2, t0, t1, t2⟩ := hmem.out.cf
          have z0 := hmem.out.im.lt
          have z1 := hmem.out.t.lt
          have HF := Lib.hid hmem.out.im.fr
          rcases hrel.out with rfl | ⟨rfl, r0⟩ | ⟨rfl, r0, r1⟩ | ⟨rfl, r0, r1, r2⟩
          · rcases field_cases p.wide g d with ⟨hgt, h0, h1, hf⟩ | ⟨hgt, h0, hf⟩ | ⟨hgt, h0, h1, hf⟩ | ⟨hgt, h0, hf⟩ | ⟨hgt, h0, hf⟩
            · have HX := Lib.hid (show RfRel p d a b g m0 m1 1 from Or.inr (Or.inl ⟨rfl, hf⟩))
              clear hf hrel 
              rw [hgt] at t0
              clear hgt
              go_wp2
              go_roundw
              case rel => exact ⟨1, rfl, HX, hmem⟩
              case measure => simp [intOf]
            · have HX := Lib.hid (insR_f0 (p := p) (i := ⟨op, d, a, b, cc, n⟩) (by rw [Hg.out]; exact hf))
              clear hf hrel 
              rw [hgt] at t0
              clear hgt
              go_wp2
              go_ret
              exact ⟨ret_b HX.out.symm, HF.out⟩
            · have HX := Lib.hid (insR_f0 (p := p) (i := ⟨op, d, a, b, cc, n⟩) (by rw [Hg.out]; exact hf))
              clear hf hrel 
              rw [hgt] at t0
              clear hgt
              go_wp2
              go_ret
              exact ⟨ret_b HX.out.symm, HF.out⟩
            · have HX := Lib.hid (show RfRel p d a b g m0 m1 1 from Or.inr (Or.inl ⟨rfl, hf⟩))
              clear hf hrel 
              rw [hgt] at t0
              rw [h0] at f0
              clear h0
              clear hgt
              go_wp2
              go_roundw
              case rel => exact ⟨1, rfl, HX, hmem⟩
              case measure => simp [intOf]
            · have HX := Lib.hid (insR_f0 (p := p) (i := ⟨op, d, a, b, cc, n⟩) (by rw [Hg.out]; exact hf))
              clear hf hrel 
              rw [hgt] at t0
              clear hgt
              go_wp2
              go_ret
              exact ⟨ret_b HX.out.symm, HF.out⟩
          · rcases field_cases p.wide m0 a with ⟨hgt, h0, h1, hf⟩ | ⟨hgt, h0, hf⟩ | ⟨hgt, h0, h1, hf⟩ | ⟨hgt, h0, hf⟩ | ⟨hgt, h0, hf⟩
            · have HX := Lib.hid (show RfRel p d a b g m0 m1 2 from Or.inr (Or.inr (Or.inl ⟨rfl, r0, hf⟩)))
              clear hf hrel r0
              rw [hgt] at t1
              clear hgt
              go_wp2
              go_roundw
              case rel => exact ⟨2, rfl, HX, hmem⟩
              case measure => simp [intOf]
            · have HX := Lib.hid (insR_f1 (p := p) (i := ⟨op, d, a, b, cc, n⟩) (by rw [Hm0.out]; exact hf))
              clear hf hrel r0
              rw [hgt] at t1
              clear hgt
              go_wp2
              go_ret
              exact ⟨ret_b HX.out.symm, HF.out⟩
            · have HX := Lib.hid (insR_f1 (p := p) (i := ⟨op, d, a, b, cc, n⟩) (by rw [Hm0.out]; exact hf))
              clear hf hrel r0
              rw [hgt] at t1
              clear hgt
              go_wp2
              go_ret
              exact ⟨ret_b HX.out.symm, HF.out⟩
            · have HX := Lib.hid (show RfRel p d a b g m0 m1 2 from Or.inr (Or.inr (Or.inl ⟨rfl, r0, hf⟩)))
              clear hf hrel r0
              rw [hgt] at t1
              rw [h0] at f1
              clear h0
              clear hgt
              go_wp2
              go_roundw
              case rel => exact ⟨2, rfl, HX, hmem⟩
              case measure => simp [intOf]
            · have HX := Lib.hid (insR_f1 (p := p) (i := ⟨op, d, a, b, cc, n⟩) (by rw [Hm0.out]; exact hf))
              clear hf hrel r0
              rw [hgt] at t1
              clear hgt
              go_wp2
              go_ret
              exact ⟨ret_b HX.out.symm, HF.out⟩
          · rcases field_cases p.wide m1 b with ⟨hgt, h0, h1, hf⟩ | ⟨hgt, h0, hf⟩ | ⟨hgt, h0, h1, hf⟩ | ⟨hgt, h0, hf⟩ | ⟨hgt, h0, hf⟩
            · have HX := Lib.hid (show RfRel p d a b g m0 m1 3 from Or.inr (Or.inr (Or.inr ⟨rfl, r0, r1, hf⟩)))
              clear hf hrel r0 r1
              rw [hgt] at t2
              clear hgt
              go_wp2
              go_roundw
              case rel => exact ⟨3, rfl, HX, hmem⟩
              case measure => simp [intOf]
            · have HX := Lib.hid (insR_f2 (p := p) (i := ⟨op, d, a, b, cc, n⟩) (by rw [Hm1.out]; exact hf))
              clear hf hrel r0 r1
              rw [hgt] at t2
              clear hgt
              go_wp2
              go_ret
              exact ⟨ret_b HX.out.symm, HF.out⟩
            · have HX := Lib.hid (insR_f2 (p := p) (i := ⟨op, d, a, b, cc, n⟩) (by rw [Hm1.out]; exact hf))
              clear hf hrel r0 r1
              rw [hgt] at t2
              clear hgt
              go_wp2
              go_ret
              exact ⟨ret_b HX.out.symm, HF.out⟩
            · have HX := Lib.hid (show RfRel p d a b g m0 m1 3 from Or.inr (Or.inr (Or.inr ⟨rfl, r0, r1, hf⟩)))
              clear hf hrel r0 r1
              rw [hgt] at t2
              rw [h0] at f2
              clear h0
              clear hgt
              go_wp2
              go_roundw
              case rel => exact ⟨3, rfl, HX, hmem⟩
              case measure => simp [intOf]
            · have HX := Lib.hid (insR_f2 (p := p) (i := ⟨op, d, a, b, cc, n⟩) (by rw [Hm1.out]; exact hf))
              clear hf hrel r0 r1
              rw [hgt] at t2
              clear hgt
              go_wp2
              go_ret
              exact ⟨ret_b HX.out.symm, HF.out⟩
          · have HR := Lib.hid (insR_rest (p := p) (i := ⟨op, d, a, b, cc, n⟩) HK.out HN.out (by rw [Hg.out]; exact r0) (by rw [Hm0.out]; exact r1) (by rw [Hm1.out]; exact r2))
            have HD := Lib.hid (fun h => field_in r0 (Hg.out.symm.trans h))
            have HA := Lib.hid (fun h => field_in r1 (Hm0.out.symm.trans (decide_eq_true h)))
            have HB := Lib.hid (fun h => field_in r2 (Hm1.out.symm.trans (decide_eq_true h)))
            obtain ⟨d0, d1, d2, d3, d4, d5⟩ := hmem.out.im.ci
            obtain ⟨c0, c1⟩ := hmem.out.im.cp
            clear r0 r1 r2 hrel f0 f1 f2 t0 t1 t2
            simp only at HR
            rcases jump_cases op with h8 | ⟨h8, h9⟩ | ⟨h8, h9⟩
            · have HX := Lib.hid (rest_jump HR.out (by simp only [beq_iff_eq] at *; omega))
              by_cases hc : 0 ≤ cc ∧ cc < p.code.length
              · have HY := Lib.hid (HX.out.1 hc)
                obtain ⟨h0, h1⟩ := hc
                clear HX
                go_wp2_with fail
                refine (refWidths_any R _ p ⟨op, d, a, b, cc, n⟩ _ (H.out.kept HF.out (fun _ _ h => h)) HK.out HD.out HA.out HB.out).mono ?_
                rintro e w1 ⟨rfl, f1⟩
                go_wp2
                go_ret
                exact ⟨ret_b HY.out.symm, HF.out.trans f1⟩
              · by_cases h0 : 0 ≤ cc
                · have h1 : (p.code.length : Int) ≤ cc := by omega
                  have HY := Lib.hid (HX.out.2 (Or.inr h1))
                  clear HX hc
                  go_wp2
                  go_ret
                  exact ⟨ret_b HY.out.symm, HF.out⟩
                · have h1 : cc < 0 := by omega
                  have HY := Lib.hid (HX.out.2 (Or.inl h1))
                  clear HX hc h0
                  go_wp2
                  go_ret
                  exact ⟨ret_b HY.out.symm, HF.out⟩
            · have HX := Lib.hid (rest_jump HR.out (by simp only [beq_iff_eq] at *; omega))
              by_cases hc : 0 ≤ cc ∧ cc < p.code.length
              · have HY := Lib.hid (HX.out.1 hc)
                obtain ⟨h0, h1⟩ := hc
                clear HX
                go_wp2_with fail
                refine (refWidths_any R _ p ⟨op, d, a, b, cc, n⟩ _ (H.out.kept HF.out (fun _ _ h => h)) HK.out HD.out HA.out HB.out).mono ?_
                rintro e w1 ⟨rfl, f1⟩
                go_wp2
                go_ret
                exact ⟨ret_b HY.out.symm, HF.out.trans f1⟩
              · by_cases h0 : 0 ≤ cc
                · have h1 : (p.code.length : Int) ≤ cc := by omega
                  have HY := Lib.hid (HX.out.2 (Or.inr h1))
                  clear HX hc
                  go_wp2
                  go_ret
                  exact ⟨ret_b HY.out.symm, HF.out⟩
                · have h1 : cc < 0 := by omega
                  have HY := Lib.hid (HX.out.2 (Or.inl h1))
                  clear HX hc h0
                  go_wp2
                  go_ret
                  exact ⟨ret_b HY.out.symm, HF.out⟩
            · have HX := Lib.hid (rest_nojump HR.out h8 h9)
              by_cases hc : cc = 0
              · have HY := Lib.hid (HX.out.1 hc)
                have hc0 : (cc != 0) = false := by simpa using hc
                clear HX hc
                go_wp2_with fail
                refine (refWidths_any R _ p ⟨op, d, a, b, cc, n⟩ _ (H.out.kept HF.out (fun _ _ h => h)) HK.out HD.out HA.out HB.out).mono ?_
                rintro e w1 ⟨rfl, f1⟩
                go_wp2
                go_ret
                exact ⟨ret_b HY.out.symm, HF.out.trans f1⟩
              · have HY := Lib.hid (HX.out.2 hc)
                have hc0 : (cc != 0) = true := by simpa using hc
                clear HX hc
                go_wp2
                go_ret
                exact ⟨ret_b HY.out.symm, HF.out⟩
end Go.Proofs.Ytodmkjeankbieab
