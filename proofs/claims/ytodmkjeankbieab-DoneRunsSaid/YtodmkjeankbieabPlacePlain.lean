/- Registers and slots, plainly: which places may be, the program's way and the reference's. No program in sight. -/
import Derived.Test.YtodmkjeankbieabFormPlain
namespace Go.Proofs.Ytodmkjeankbieab

theorem shape_there {op : Int} (h : known op = true) : (decide ((shape op).getD 0 0 = 45) = !gvs op) ∧ (decide ((shape op).getD 1 0 = 45) = !decide (0 < many op)) ∧ (decide ((shape op).getD 2 0 = 45) = !decide (1 < many op)) := by
  rcases known_cases h with rfl | rfl | rfl | rfl | rfl | rfl | rfl | rfl | rfl | rfl | ⟨h1, h2⟩ | ⟨h1, h2⟩
  case inr.inr.inr.inr.inr.inr.inr.inr.inr.inr.inl => rw [shape_op h1 h2, gvs_op h1, many_op h1]; simp
  case inr.inr.inr.inr.inr.inr.inr.inr.inr.inr.inr => rw [shape_wide h1 h2, gvs_op (by omega), many_op (by omega)]; simp
  all_goals simp [shape, gvs, many]

/-- do two places overlap? -/
def ovP (a b : PlaceV) : Bool :=
  if a.k = 2 ∧ b.k = 1 then b.n / 2 == a.n else if a.k = 1 ∧ b.k = 2 then a.n / 2 == b.n else decide (a.k = b.k ∧ a.n = b.n)
theorem ovP_comm (a b : PlaceV) : ovP a b = ovP b a := by
  unfold ovP
  by_cases h1 : a.k = 2 ∧ b.k = 1
  · rw [if_pos h1, if_neg (by omega), if_pos (by omega)]
  · rw [if_neg h1]
    by_cases h2 : a.k = 1 ∧ b.k = 2
    · rw [if_pos h2, if_pos (by omega)]
    · rw [if_neg h2, if_neg (by omega), if_neg (by omega), decide_eq_decide]; omega
theorem ovP_self (a : PlaceV) : ovP a a = true := by
  unfold ovP
  rw [if_neg (by omega), if_neg (by omega)]; simp

def tgB (sg : Int) : Bool := decide (4 ≤ sg) && decide (sg ≤ 16) && decide (sg % 2 = 0)
/-- is a place one? -/
def isB (sg sl : Int) (a : PlaceV) : Bool := decide (0 ≤ a.n ∧ a.n < if a.k = 1 then sg else if a.k = 2 then sg / 2 else if a.k = 3 then sl else 0)
def mvB (sg sl : Int) (m : Mv) : Bool :=
  isB sg sl m.to && if m.c then decide (m.fr = ⟨0, 0⟩) && decide (m.to.k = 1) else decide (m.n = 0) && isB sg sl m.fr && (decide (m.to.k = m.fr.k) != (decide (m.to.k = 3) || decide (m.fr.k = 3)))
def mvsB (sg sl : Int) (l : List Mv) : Bool := l.all (mvB sg sl) && decide (l.length ≤ 6)
/-- of what kind a place has to be -/
def kindV (wide : List Bool) (l : UInt8) (t : Int) : Int := if l = 45 then 0 else if wd wide t then 2 else 1
def plB (wide : List Bool) (sg sl : Int) (l : UInt8) (t : Int) (a : PlaceV) : Bool :=
  decide (a.k = kindV wide l t) && !(decide (kindV wide l t = 0) && decide (a.n ≠ 0)) && !(decide (kindV wide l t ≠ 0) && !isB sg sl a)
def rwB (p : Pg) (sg sl : Int) (i : In) (r : Rw) : Bool :=
  (plB p.wide sg sl ((shape i.op).getD 0 0) i.d r.d && plB p.wide sg sl ((shape i.op).getD 1 0) i.a r.a && plB p.wide sg sl ((shape i.op).getD 2 0) i.b r.b) &&
    (mvsB sg sl r.before && mvsB sg sl r.after && (!decide (8 ≤ i.op ∧ i.op ≤ 10) || decide (r.after.length = 0)))
def mayL (p : Pg) (sg : Int) (l : Pd) : Bool :=
  mayB p && tgB sg && decide (0 ≤ l.slots) && decide (l.slots ≤ 12) && decide (l.rows.length = p.code.length) && (p.code.zip l.rows).all fun x => rwB p sg l.slots x.1 x.2

/-! ### the reference's way -/
def isR (sg sl : Int) (a : PlaceV) : Bool :=
  if a.k = 1 then decide (0 ≤ a.n ∧ a.n < sg) else if a.k = 2 then decide (0 ≤ a.n ∧ 2 * a.n < sg ∧ a.n < 100) else if a.k = 3 then decide (0 ≤ a.n ∧ a.n < sl) else false
def mvR (sg sl : Int) (m : Mv) : Bool :=
  isR sg sl m.to && if m.c then decide (m.fr.k = 0 ∧ m.fr.n = 0 ∧ m.to.k = 1) else (decide (m.n = 0) && isR sg sl m.fr) && if m.to.k = 3 then decide (m.fr.k ≠ 3) else decide (m.fr.k = 3 ∨ m.fr.k = m.to.k)
def mvsR (sg sl : Int) (l : List Mv) : Bool := decide (l.length ≤ 6) && l.all (mvR sg sl)
def regR (wide : List Bool) (sg : Int) (t : Int) (a : PlaceV) : Bool := decide (a.k = if wd wide t then 2 else 1) && isR sg 0 a
def plR (wide : List Bool) (sg : Int) (there : Bool) (t : Int) (a : PlaceV) : Bool := if there then regR wide sg t a else decide (a.k = 0 ∧ a.n = 0)
def rwR (p : Pg) (sg sl : Int) (i : In) (r : Rw) : Bool :=
  (plR p.wide sg (gvs i.op) i.d r.d && plR p.wide sg (decide (0 < many i.op)) i.a r.a && plR p.wide sg (decide (1 < many i.op)) i.b r.b) &&
    (mvsR sg sl r.before && mvsR sg sl r.after) && !(decide (i.op = 8 ∨ i.op = 9 ∨ i.op = 10) && decide (0 < r.after.length))
def tgR (sg : Int) : Bool := decide (sg = 4) || decide (sg = 6) || decide (sg = 8) || decide (sg = 10) || decide (sg = 12) || decide (sg = 14) || decide (sg = 16)
def mayLR (p : Pg) (sg : Int) (l : Pd) : Bool :=
  mayR p && tgR sg && decide (0 ≤ l.slots) && decide (l.slots ≤ 12) && decide (l.rows.length = p.code.length) && (p.code.zip l.rows).all fun x => rwR p sg l.slots x.1 x.2

theorem tg_eq (sg : Int) : tgB sg = tgR sg := by
  unfold tgB tgR
  rw [Bool.eq_iff_iff]
  simp
  omega
theorem tg_facts {sg : Int} (h : tgB sg = true) : 4 ≤ sg ∧ sg ≤ 16 ∧ sg % 2 = 0 := by
  unfold tgB at h; simpa [and_assoc] using h
theorem is_eq {sg sl : Int} (h0 : sg ≤ 16) (h2 : sg % 2 = 0) (a : PlaceV) : isB sg sl a = isR sg sl a := by
  unfold isB isR
  by_cases e1 : a.k = 1
  · simp only [e1, if_true]
  · by_cases e2 : a.k = 2
    · rw [if_neg e1, if_pos e2, if_neg e1, if_pos e2, decide_eq_decide]; omega
    · by_cases e3 : a.k = 3
      · rw [if_neg e1, if_neg e2, if_pos e3, if_neg e1, if_neg e2, if_pos e3]
      · rw [if_neg e1, if_neg e2, if_neg e3, if_neg e1, if_neg e2, if_neg e3]
        exact decide_eq_false (by omega)
theorem isB_slots {sg sl sl' : Int} {a : PlaceV} (h : a.k ≠ 3) : isB sg sl a = isB sg sl' a := by
  unfold isB
  rw [if_neg h, if_neg h]
theorem mv_eq {sg sl : Int} (h0 : sg ≤ 16) (h2 : sg % 2 = 0) (m : Mv) : mvB sg sl m = mvR sg sl m := by
  unfold mvB mvR
  rw [is_eq h0 h2, is_eq h0 h2]
  congr 1
  obtain ⟨⟨tk, tn⟩, ⟨fk, fn⟩, c, n⟩ := m
  cases c with
  | true =>
    simp only [if_true, PlaceV.mk.injEq]
    rw [Bool.eq_iff_iff]
    simp
    omega
  | false =>
    simp only [Bool.false_eq_true, if_false]
    congr 1
    by_cases e1 : tk = 3
    · subst e1
      by_cases e2 : fk = 3
      · subst e2; simp
      · have : ¬ (3 : Int) = fk := by omega
        simp [e2, this]
    · by_cases e2 : fk = 3
      · subst e2; simp [e1]
      · simp [e1, e2]
        exact eq_comm
theorem mvs_eq {sg sl : Int} (h0 : sg ≤ 16) (h2 : sg % 2 = 0) (l : List Mv) : mvsB sg sl l = mvsR sg sl l := by
  unfold mvsB mvsR
  rw [show mvB sg sl = mvR sg sl from funext (mv_eq h0 h2), Bool.and_comm]
theorem pl_eq {wide : List Bool} {sg sl : Int} (h0 : sg ≤ 16) (h2 : sg % 2 = 0) {l : UInt8} {there : Bool} (ht : decide (l = 45) = !there) (t : Int) (a : PlaceV) : plB wide sg sl l t a = plR wide sg there t a := by
  unfold plB plR kindV
  cases there with
  | false =>
    simp only [Bool.not_false, decide_eq_true_eq] at ht
    simp only [ht, if_true, Bool.false_eq_true, if_false]
    rw [Bool.eq_iff_iff]
    simp
  | true =>
    simp only [Bool.not_true, decide_eq_false_iff_not] at ht
    simp only [ht, if_true, if_false]
    unfold regR
    rw [← is_eq h0 h2]
    cases wd wide t with
    | true =>
      simp only [if_true]
      by_cases hk : a.k = 2
      · rw [isB_slots (sl' := 0) (by omega : a.k ≠ 3)]
        simp [hk]
      · simp [hk]
    | false =>
      simp only [Bool.false_eq_true, if_false]
      by_cases hk : a.k = 1
      · rw [isB_slots (sl' := 0) (by omega : a.k ≠ 3)]
        simp [hk]
      · simp [hk]
theorem rw_eq {p : Pg} {sg sl : Int} (h0 : sg ≤ 16) (h2 : sg % 2 = 0) {i : In} (hk : known i.op = true) (r : Rw) : rwB p sg sl i r = rwR p sg sl i r := by
  obtain ⟨s0, s1, s2⟩ := shape_there hk
  unfold rwB rwR
  rw [pl_eq h0 h2 s0, pl_eq h0 h2 s1, pl_eq h0 h2 s2, mvs_eq h0 h2, mvs_eq h0 h2]
  generalize (plR p.wide sg (gvs i.op) i.d r.d && plR p.wide sg (decide (0 < many i.op)) i.a r.a && plR p.wide sg (decide (1 < many i.op)) i.b r.b) = X
  generalize mvsR sg sl r.before = Y
  generalize mvsR sg sl r.after = Z
  generalize r.after.length = n
  rw [Bool.and_assoc (X) (Y && Z)]
  congr 2
  rw [Bool.eq_iff_iff]
  simp
  omega

theorem mayB_known {p : Pg} (h : mayB p = true) {i : In} (hi : i ∈ p.code) : known i.op = true := by
  unfold mayB at h
  simp only [Bool.and_eq_true, List.all_eq_true] at h
  have := h.1.1.1.1 i hi
  unfold insB at this
  simp only [Bool.and_eq_true] at this
  exact this.1.1.1

theorem all_congr {α : Type} {f g : α → Bool} : ∀ {l : List α}, (∀ x ∈ l, f x = g x) → l.all f = l.all g
  | [], _ => rfl
  | x :: l, h => by rw [List.all_cons, List.all_cons, h x (by simp), all_congr fun y hy => h y (List.mem_cons_of_mem _ hy)]

theorem mayL_eq (p : Pg) (sg : Int) (l : Pd) : mayL p sg l = mayLR p sg l := by
  unfold mayL mayLR
  rw [← mayB_eq, ← tg_eq]
  by_cases h : mayB p = true ∧ tgB sg = true
  · obtain ⟨t1, t2, t3⟩ := tg_facts h.2
    congr 1
    apply all_congr
    intro x hx
    exact rw_eq t2 t3 (mayB_known h.1 (List.of_mem_zip hx).1) _
  · have : (mayB p && tgB sg) = false := by
      rw [Bool.and_eq_false_iff]
      cases h1 : mayB p <;> simp_all
    simp only [this, Bool.false_and]

end Go.Proofs.Ytodmkjeankbieab
