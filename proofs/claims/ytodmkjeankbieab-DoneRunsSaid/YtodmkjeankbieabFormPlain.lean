/- Programs, plainly: which may be (the program's way, by letters; the reference's way, by counts), what they take and give, where they go on. No program in sight. -/
import Derived.Test.YtodmkjeankbieabData
namespace Go.Proofs.Ytodmkjeankbieab

/-! ### shapes -/
/-- five letters: Dest, A, B, C, N; the empty list: no such operation -/
def shape (op : Int) : List UInt8 :=
  if op = 1 then [110, 45, 45, 45, 110] else if op = 2 then [120, 120, 45, 45, 45] else if op = 3 then [110, 45, 45, 45, 45] else if op = 4 then [45, 110, 45, 45, 45]
  else if op = 5 then [119, 110, 110, 45, 45] else if op = 6 then [110, 119, 45, 45, 45] else if op = 7 then [110, 119, 45, 45, 45] else if op = 8 then [45, 45, 45, 99, 45]
  else if op = 9 then [45, 110, 45, 99, 45] else if op = 10 then [45, 45, 45, 45, 45] else if 20 < op ∧ op ≤ 26 then [110, 110, 110, 45, 45] else if 40 < op ∧ op ≤ 45 then [119, 119, 119, 45, 45] else []
/-- is there such an operation? -/
def known (op : Int) : Bool := decide (1 ≤ op ∧ op ≤ 10 ∨ 21 ≤ op ∧ op ≤ 26 ∨ 41 ≤ op ∧ op ≤ 45)
/-- does an instruction give one? -/
def gvs (op : Int) : Bool := decide (op ≠ 4 ∧ op ≠ 8 ∧ op ≠ 9 ∧ op ≠ 10)
/-- how many does it take? -/
def many (op : Int) : Nat :=
  if op = 1 ∨ op = 3 ∨ op = 8 ∨ op = 10 then 0 else if op = 2 ∨ op = 4 ∨ op = 6 ∨ op = 7 ∨ op = 9 then 1 else 2
def uses (i : In) : List Int := [i.a, i.b].take (many i.op)
def nexts (i : In) (at_ : Int) : List Int :=
  if i.op = 8 then [i.c] else if i.op = 10 then [] else if i.op = 9 then [at_ + 1, i.c] else [at_ + 1]

/-- a known operation is one of these -/
theorem known_cases {op : Int} (h : known op = true) : op = 1 ∨ op = 2 ∨ op = 3 ∨ op = 4 ∨ op = 5 ∨ op = 6 ∨ op = 7 ∨ op = 8 ∨ op = 9 ∨ op = 10 ∨ (20 < op ∧ op ≤ 26) ∨ (40 < op ∧ op ≤ 45) := by
  unfold known at h
  have := of_decide_eq_true h
  omega

/-- is a temporary wide? (false beyond) -/
def wd (wide : List Bool) (n : Int) : Bool := wide.getD n.toNat false
/-- a field, by a letter -/
def tempB (wide : List Bool) (n : Int) (l : UInt8) : Bool :=
  if l = 45 then decide (n = 0) else decide (0 ≤ n ∧ n < wide.length) && (decide (l = 120) || (wd wide n == decide (l = 119)))

/-- may an instruction be? the program's way -/
def insB (p : Pg) (i : In) : Bool :=
  known i.op && (tempB p.wide i.d ((shape i.op).getD 0 0) && tempB p.wide i.a ((shape i.op).getD 1 0) && tempB p.wide i.b ((shape i.op).getD 2 0)) &&
    !(decide (i.op = 2) && (wd p.wide i.d != wd p.wide i.a)) &&
    ((if (shape i.op).getD 3 0 = 99 then decide (0 ≤ i.c ∧ i.c < p.code.length) else decide (i.c = 0)) && (decide ((shape i.op).getD 4 0 = 110) || decide (i.n = 0)))

def mayB (p : Pg) : Bool :=
  p.code.all (insB p) && decide (1 ≤ p.wide.length) && decide (p.wide.length ≤ 12) && decide (1 ≤ p.code.length) && decide (p.code.length ≤ 40)

/-! ### the reference's way -/
def inB (n : Int) (l : Nat) : Bool := decide (0 ≤ n ∧ n < l)
/-- the kinds of what it gives and takes -/
def kinds (p : Pg) (i : In) : List Bool := (if gvs i.op then [wd p.wide i.d] else []) ++ (uses i).map (wd p.wide)
def widthsR (p : Pg) (i : In) : Bool :=
  if i.op = 2 then (kinds p i).getD 0 false == (kinds p i).getD 1 false
  else if i.op = 5 then (kinds p i).getD 0 false && !(kinds p i).getD 1 false && !(kinds p i).getD 2 false
  else if i.op = 6 ∨ i.op = 7 then !(kinds p i).getD 0 false && (kinds p i).getD 1 false
  else (kinds p i).all fun x => x == decide (40 < i.op)
/-- a field that is there, or not -/
def fieldR (wide : List Bool) (there : Bool) (n : Int) : Bool := if there then inB n wide.length else decide (n = 0)
def insR (p : Pg) (i : In) : Bool :=
  known i.op && (decide (i.op = 1) || decide (i.n = 0)) &&
    (fieldR p.wide (gvs i.op) i.d && fieldR p.wide (decide (0 < many i.op)) i.a && fieldR p.wide (decide (1 < many i.op)) i.b) &&
    (if i.op = 8 ∨ i.op = 9 then inB i.c p.code.length else decide (i.c = 0)) && widthsR p i
def mayR (p : Pg) : Bool :=
  decide (1 ≤ p.wide.length) && decide (p.wide.length ≤ 12) && decide (1 ≤ p.code.length) && decide (p.code.length ≤ 40) && p.code.all (insR p)

theorem insR_known {p : Pg} {i : In} (h : insR p i = true) : known i.op = true := by
  unfold insR at h
  simp only [Bool.and_eq_true] at h
  exact h.1.1.1.1

theorem shape_op {op : Int} (h1 : 20 < op) (h2 : op ≤ 26) : shape op = [110, 110, 110, 45, 45] := by
  unfold shape
  iterate 10 rw [if_neg (by omega)]
  rw [if_pos ⟨h1, h2⟩]
theorem shape_wide {op : Int} (h1 : 40 < op) (h2 : op ≤ 45) : shape op = [119, 119, 119, 45, 45] := by
  unfold shape
  iterate 11 rw [if_neg (by omega)]
  rw [if_pos ⟨h1, h2⟩]
theorem gvs_op {op : Int} (h1 : 20 < op) : gvs op = true := by unfold gvs; exact decide_eq_true (by omega)
theorem many_op {op : Int} (h1 : 20 < op) : many op = 2 := by
  unfold many
  rw [if_neg (by omega), if_neg (by omega)]

set_option maxHeartbeats 1000000 in
theorem insB_eq (p : Pg) (i : In) : insB p i = insR p i := by
  obtain ⟨op, d, a, b, c, n⟩ := i
  cases hk : known op with
  | false => simp [insB, insR, hk]
  | true =>
    have h := known_cases hk
    unfold insB insR
    simp only [hk, Bool.true_and]
    rcases h with rfl | rfl | rfl | rfl | rfl | rfl | rfl | rfl | rfl | rfl | ⟨h1, h2⟩ | ⟨h1, h2⟩
    case inr.inl =>
      simp [shape, gvs, many, widthsR, kinds, uses, tempB, fieldR, inB, Bool.and_assoc]
      cases wd p.wide d <;> cases wd p.wide a <;> simp <;> ac_rfl
    case inr.inr.inr.inr.inr.inr.inr.inr.inr.inr.inl =>
      have e1 : ¬ op = 1 := by omega
      have e2 : ¬ op = 2 := by omega
      have e3 : ¬ op = 5 := by omega
      have e4 : ¬ (op = 6 ∨ op = 7) := by omega
      have e5 : ¬ (op = 8 ∨ op = 9) := by omega
      have e6 : ¬ (40 < op) := by omega
      rw [shape_op h1 h2]
      simp only [widthsR, kinds, uses, gvs_op h1, many_op h1, e1, e2, e3, e4, e5, e6]
      simp [tempB, fieldR, inB, Bool.and_assoc]
      ac_rfl
    case inr.inr.inr.inr.inr.inr.inr.inr.inr.inr.inr =>
      have e1 : ¬ op = 1 := by omega
      have e2 : ¬ op = 2 := by omega
      have e3 : ¬ op = 5 := by omega
      have e4 : ¬ (op = 6 ∨ op = 7) := by omega
      have e5 : ¬ (op = 8 ∨ op = 9) := by omega
      have h3 : 20 < op := by omega
      rw [shape_wide h1 h2]
      simp only [widthsR, kinds, uses, gvs_op h3, many_op h3, e1, e2, e3, e4, e5, h1]
      simp [tempB, fieldR, inB, Bool.and_assoc]
      ac_rfl
    all_goals
      simp [shape, gvs, many, widthsR, kinds, uses, tempB, fieldR, inB, Bool.and_assoc]
      try ac_rfl

theorem mayB_eq (p : Pg) : mayB p = mayR p := by
  unfold mayB mayR
  rw [show insB p = insR p from funext (insB_eq p)]
  ac_rfl

end Go.Proofs.Ytodmkjeankbieab
