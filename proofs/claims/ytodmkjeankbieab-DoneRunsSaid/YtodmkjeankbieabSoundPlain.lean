/- What is taken does what the program does, plainly. No program in sight. -/
import Derived.Test.YtodmkjeankbieabFactsPlain
namespace Go.Proofs.Ytodmkjeankbieab

/-! ### what may be, instruction by instruction -/
theorem inAt_get {code : List In} {k : Nat} (h : k < code.length) : inAt code k = code[k] := by
  unfold inAt; rw [List.getD_eq_getElem?_getD, List.getElem?_eq_getElem h]; rfl
theorem inAt_mem {code : List In} {k : Nat} (h : k < code.length) : inAt code k ∈ code := by rw [inAt_get h]; exact List.getElem_mem h
theorem rwAt_get {rows : List Rw} {k : Nat} (h : k < rows.length) : rwAt rows k = rows[k] := by
  unfold rwAt; rw [List.getD_eq_getElem?_getD, List.getElem?_eq_getElem h]; rfl
theorem rwAt_mem {rows : List Rw} {k : Nat} (h : k < rows.length) : rwAt rows k ∈ rows := by rw [rwAt_get h]; exact List.getElem_mem h

theorem mayB_ins {p : Pg} (h : mayB p = true) {i : In} (hi : i ∈ p.code) : insB p i = true := by
  unfold mayB at h
  simp only [Bool.and_eq_true, List.all_eq_true] at h
  exact h.1.1.1.1 i hi
theorem mayB_len {p : Pg} (h : mayB p = true) : 1 ≤ p.wide.length ∧ p.wide.length ≤ 12 ∧ 1 ≤ p.code.length ∧ p.code.length ≤ 40 := by
  unfold mayB at h
  simp only [Bool.and_eq_true, decide_eq_true_eq] at h
  exact ⟨h.1.1.1.2, h.1.1.2, h.1.2, h.2⟩
theorem mayL_facts {p : Pg} {sg : Int} {l : Pd} (h : mayL p sg l = true) : mayB p = true ∧ tgB sg = true ∧ 0 ≤ l.slots ∧ l.slots ≤ 12 ∧ l.rows.length = p.code.length := by
  unfold mayL at h
  simp only [Bool.and_eq_true, decide_eq_true_eq] at h
  exact ⟨h.1.1.1.1.1, h.1.1.1.1.2, h.1.1.1.2, h.1.1.2, h.1.2⟩
theorem mayL_row {p : Pg} {sg : Int} {l : Pd} (h : mayL p sg l = true) {k : Nat} (hk : k < p.code.length) : rwB p sg l.slots (inAt p.code k) (rwAt l.rows k) = true := by
  have hl := (mayL_facts h).2.2.2.2
  unfold mayL at h
  simp only [Bool.and_eq_true, List.all_eq_true] at h
  have hz : (p.code[k], l.rows[k]'(by omega)) ∈ p.code.zip l.rows := by
    rw [List.mem_iff_getElem]
    exact ⟨k, by simp; omega, by simp⟩
  have := h.2 _ hz
  rw [inAt_get hk, rwAt_get (by omega)]
  exact this

/-- of what widths an instruction's temporaries are -/
structure InsOk (p : Pg) (i : In) : Prop where
  kn : known i.op = true
  d : gvs i.op = true → tempIn p i.d
  a : 0 < many i.op → tempIn p i.a
  b : 1 < many i.op → tempIn p i.b
  c : i.op = 8 ∨ i.op = 9 → 0 ≤ i.c ∧ i.c < p.code.length
  w1 : i.op = 1 ∨ i.op = 3 ∨ i.op = 6 ∨ i.op = 7 ∨ (20 < i.op ∧ i.op ≤ 26) → wd p.wide i.d = false
  w2 : i.op = 2 → wd p.wide i.d = wd p.wide i.a
  w5 : i.op = 5 → wd p.wide i.d = true ∧ wd p.wide i.a = false ∧ wd p.wide i.b = false
  w6 : i.op = 6 ∨ i.op = 7 → wd p.wide i.a = true
  w20 : (20 < i.op ∧ i.op ≤ 26) → wd p.wide i.a = false ∧ wd p.wide i.b = false
  w40 : 40 < i.op → wd p.wide i.d = true ∧ wd p.wide i.a = true ∧ wd p.wide i.b = true

theorem insOk {p : Pg} {i : In} (h : insB p i = true) : InsOk p i := by
  rw [insB_eq] at h
  have hk := insR_known h
  obtain ⟨op, d, a, b, c, n⟩ := i
  unfold insR at h
  simp only [Bool.and_eq_true] at h
  obtain ⟨⟨⟨⟨_, h1⟩, h2⟩, h3⟩, h4⟩ := h
  obtain ⟨⟨h2, h5⟩, h6⟩ := h2
  simp only at hk h1 h2 h3 h4 h5 h6
  have hD : gvs op = true → tempIn p d := fun hg => by
    unfold fieldR at h2; rw [if_pos hg] at h2; simpa [inB, tempIn] using h2
  have hA : 0 < many op → tempIn p a := fun hg => by
    unfold fieldR at h5; rw [if_pos (decide_eq_true hg)] at h5; simpa [inB, tempIn] using h5
  have hB : 1 < many op → tempIn p b := fun hg => by
    unfold fieldR at h6; rw [if_pos (decide_eq_true hg)] at h6; simpa [inB, tempIn] using h6
  have hC : op = 8 ∨ op = 9 → 0 ≤ c ∧ c < p.code.length := fun hg => by
    rw [if_pos hg] at h3; simpa [inB] using h3
  rcases known_cases hk with rfl | rfl | rfl | rfl | rfl | rfl | rfl | rfl | rfl | rfl | ⟨g1, g2⟩ | ⟨g1, g2⟩
  case inr.inr.inr.inr.inr.inr.inr.inr.inr.inr.inl =>
    have e1 : ¬ op = 2 := by omega
    have e2 : ¬ op = 5 := by omega
    have e3 : ¬ (op = 6 ∨ op = 7) := by omega
    have e4 : ¬ 40 < op := by omega
    simp only [widthsR, kinds, uses, gvs_op g1, many_op g1, e1, e2, e3, e4] at h4
    simp at h4
    refine ⟨hk, hD, hA, hB, hC, fun _ => ?_, fun h => ?_, fun h => ?_, fun h => ?_, fun _ => ?_, fun h => ?_⟩ <;> simp only at *
    · exact h4.1
    · omega
    · omega
    · omega
    · exact ⟨h4.2.1, h4.2.2⟩
    · omega
  case inr.inr.inr.inr.inr.inr.inr.inr.inr.inr.inr =>
    have e1 : ¬ op = 2 := by omega
    have e2 : ¬ op = 5 := by omega
    have e3 : ¬ (op = 6 ∨ op = 7) := by omega
    have g3 : 20 < op := by omega
    simp only [widthsR, kinds, uses, gvs_op g3, many_op g3, e1, e2, e3, g1] at h4
    simp at h4
    refine ⟨hk, hD, hA, hB, hC, fun h => ?_, fun h => ?_, fun h => ?_, fun h => ?_, fun h => ?_, fun _ => ?_⟩ <;> simp only at *
    · omega
    · omega
    · omega
    · omega
    · omega
    · exact ⟨h4.1, h4.2.1, h4.2.2⟩
  all_goals
    simp [widthsR, kinds, uses, gvs, many] at h4
    refine ⟨hk, hD, hA, hB, hC, fun h => ?_, fun h => ?_, fun h => ?_, fun h => ?_, fun h => ?_, fun h => ?_⟩ <;> simp only at * <;> first | omega | simp_all

/-! ### stores -/
structure Fits (p : Pg) (st : Sto) (τ : Int → Int) : Prop where
  sg : ∀ n, 0 ≤ st.sg n ∧ st.sg n < 4294967296
  sl : ∀ n, 0 ≤ st.sl n ∧ st.sl n < 18446744073709551616
  tp : ∀ t, 0 ≤ τ t ∧ τ t < 18446744073709551616
  nar : ∀ t, wd p.wide t = false → τ t < 4294967296

def Holds (st : Sto) (τ : Int → Int) (f : Fc) : Prop :=
  if f.temp = true then (if f.pl.k = 0 then τ f.t = (f.n : Int) else getS st f.pl = τ f.t) else getS st f.pl = (f.n : Int)

theorem holds_has {st : Sto} {τ : Int → Int} {a : PlaceV} {t : Int} (h : a.k ≠ 0) : Holds st τ (hasF a t) ↔ getS st a = τ t := by unfold Holds hasF; simp [h]
theorem holds_is {st : Sto} {τ : Int → Int} {a : PlaceV} {n : Nat} : Holds st τ (isF a n) ↔ getS st a = (n : Int) := by unfold Holds isF; simp
theorem holds_kn {st : Sto} {τ : Int → Int} {t : Int} {n : Nat} : Holds st τ (knF t n) ↔ τ t = (n : Int) := by unfold Holds knF; simp

theorem getS_far {st : Sto} {a b : PlaceV} (h : ovP a b = false) (v : Int) : getS (putS st b v) a = getS st a := by
  obtain ⟨ak, an⟩ := a
  obtain ⟨bk, bn⟩ := b
  unfold ovP at h
  simp only at h
  unfold putS getS
  simp only
  by_cases b1 : bk = 1
  · subst b1
    by_cases a1 : ak = 1
    · subst a1
      simp at h
      simp [upd, h]
    · by_cases a2 : ak = 2
      · subst a2
        simp at h
        have e1 : ¬ (2 * an + 1 = bn) := by omega
        have e2 : ¬ (2 * an = bn) := by omega
        simp [upd, e1, e2]
      · simp [a1, a2]
  · by_cases b2 : bk = 2
    · subst b2
      by_cases a1 : ak = 1
      · subst a1
        simp at h
        have e1 : ¬ (an = 2 * bn + 1) := by omega
        have e2 : ¬ (an = 2 * bn) := by omega
        simp [upd, e1, e2]
      · by_cases a2 : ak = 2
        · subst a2
          simp at h
          have e1 : ¬ (2 * an + 1 = 2 * bn + 1) := by omega
          have e2 : ¬ (2 * an + 1 = 2 * bn) := by omega
          have e3 : ¬ (2 * an = 2 * bn + 1) := by omega
          have e4 : ¬ (2 * an = 2 * bn) := by omega
          simp [upd, e1, e2, e3, e4]
        · simp [a1, a2]
    · by_cases b3 : bk = 3
      · subst b3
        by_cases a3 : ak = 3
        · subst a3
          simp at h
          simp [upd, h]
        · simp [a3]
      · simp [b1, b2, b3]
theorem getS_same {st : Sto} {a : PlaceV} {v : Int} (h1 : a.k = 1 ∨ a.k = 2 ∨ a.k = 3) (h : a.k = 1 → 0 ≤ v ∧ v < 4294967296) : getS (putS st a v) a = v := by
  obtain ⟨ak, an⟩ := a
  simp only at h h1
  unfold putS getS
  rcases h1 with rfl | rfl | rfl
  · simp [upd]; have := h rfl; omega
  · have e : ¬ (2 * an = 2 * an + 1) := by omega
    simp [upd, e]; omega
  · simp [upd]
theorem getS_range {p : Pg} {st : Sto} {τ : Int → Int} (h : Fits p st τ) (a : PlaceV) : 0 ≤ getS st a ∧ getS st a < 18446744073709551616 := by
  unfold getS
  split
  · have := h.sg a.n; omega
  · split
    · have h1 := h.sg (2 * a.n)
      have h2 := h.sg (2 * a.n + 1)
      omega
    · split
      · exact h.sl a.n
      · omega
theorem fits_put {p : Pg} {st : Sto} {τ : Int → Int} (h : Fits p st τ) (a : PlaceV) {v : Int} (hv : 0 ≤ v ∧ v < 18446744073709551616) : Fits p (putS st a v) τ := by
  unfold putS
  split
  · refine ⟨fun n => ?_, h.sl, h.tp, h.nar⟩
    simp only [upd]
    split
    · omega
    · exact h.sg n
  · split
    · refine ⟨fun n => ?_, h.sl, h.tp, h.nar⟩
      simp only [upd]
      split
      · omega
      · split
        · omega
        · exact h.sg n
    · split
      · refine ⟨h.sg, fun n => ?_, h.tp, h.nar⟩
        simp only [upd]
        split
        · omega
        · exact h.sl n
      · exact h
theorem fits_upd {p : Pg} {st : Sto} {τ : Int → Int} (h : Fits p st τ) (d : Int) {v : Int} (hv : 0 ≤ v ∧ v < 18446744073709551616) (hn : wd p.wide d = false → v < 4294967296) : Fits p st (upd τ d v) := by
  refine ⟨h.sg, h.sl, fun t => ?_, fun t ht => ?_⟩
  · unfold upd; split
    · exact hv
    · exact h.tp t
  · unfold upd; split
    · subst_vars; exact hn ht
    · exact h.nar t ht

/-! ### a move -/
theorem isB_kind {sg sl : Int} {a : PlaceV} (h : isB sg sl a = true) : a.k = 1 ∨ a.k = 2 ∨ a.k = 3 := by
  unfold isB at h
  have := of_decide_eq_true h
  split at this
  · omega
  · split at this
    · omega
    · split at this <;> omega
theorem factIn_k0 {p : Pg} {sg sl : Int} {f : Fc} (h : FactIn p sg sl f) (h0 : f.pl.k = 0) : f.pl = ⟨0, 0⟩ ∧ f.temp = true ∧ tempIn p f.t ∧ wd p.wide f.t = false ∧ NumIn p f.n := by
  rcases h with h | ⟨h, _⟩ | ⟨h, _⟩
  · exact h
  · have := isB_kind h; omega
  · have := isB_kind h; omega
theorem factIn_temp {p : Pg} {sg sl : Int} {f : Fc} (h : FactIn p sg sl f) (h0 : f.pl.k ≠ 0) (ht : f.temp = true) : isB sg sl f.pl = true ∧ f.n = 0 ∧ tempIn p f.t ∧ mayT p.wide f.pl.k f.t = true := by
  rcases h with ⟨h, _⟩ | ⟨h, _, h2⟩ | ⟨_, h, _⟩
  · rw [h] at h0; exact absurd rfl h0
  · exact ⟨h, h2⟩
  · rw [ht] at h; cases h
theorem factIn_num {p : Pg} {sg sl : Int} {f : Fc} (h : FactIn p sg sl f) (ht : f.temp = false) : isB sg sl f.pl = true ∧ f.t = 0 ∧ f.pl.k ≠ 2 ∧ NumIn p f.n := by
  rcases h with ⟨_, h, _⟩ | ⟨_, h, _⟩ | ⟨h, _, h2⟩
  · rw [ht] at h; cases h
  · rw [ht] at h; cases h
  · exact ⟨h, h2⟩

/-- the numbers of a program are of 32 bits -/
def NumOk (p : Pg) : Prop := ∀ i ∈ p.code, i.n < 4294967296
theorem numIn_lt {p : Pg} (h : NumOk p) {n : Nat} (hn : NumIn p n) : n < 4294967296 := by
  rcases hn with rfl | ⟨i, hi, _, rfl⟩
  · omega
  · exact h i hi

theorem mvB_facts {sg sl : Int} {m : Mv} (h : mvB sg sl m = true) : isB sg sl m.to = true ∧ (m.c = true → m.to.k = 1) ∧ (m.c = false → isB sg sl m.fr = true) := by
  unfold mvB at h
  rw [Bool.and_eq_true] at h
  refine ⟨h.1, fun hc => ?_, fun hc => ?_⟩
  · have := h.2; rw [if_pos hc] at this; simp at this; exact this.2
  · have := h.2; rw [if_neg (by rw [hc]; decide)] at this; simp at this; exact this.1.2

section
variable {p : Pg} {sg sl : Int} {s : FS}
/-- the facts are of those that may be -/
def InU (p : Pg) (sg sl : Int) (s : FS) : Prop := ∀ f, s f → FactIn p sg sl f

theorem moveF_in (hu : InU p sg sl s) {m : Mv} (hm : mvB sg sl m = true) : InU p sg sl (moveF p s m) := by
  obtain ⟨m1, m2, m3⟩ := mvB_facts hm
  rintro f (h1 | ⟨hc, hn, rfl⟩ | ⟨hc, g, hg, h0, hn, rfl⟩ | ⟨hc, g, hg, hp, h1⟩)
  · exact hu f h1.1
  · exact Or.inr (Or.inr ⟨m1, rfl, rfl, by have := m2 hc; show m.to.k ≠ 2; omega, hn⟩)
  · obtain ⟨_, _, q1, q2, _⟩ := factIn_k0 (hu g hg) h0
    refine Or.inr (Or.inl ⟨m1, rfl, rfl, q1, ?_⟩)
    show mayT p.wide m.to.k g.t = true
    unfold mayT
    rw [m2 hc, q2]; decide
  · have hk := isB_kind (m3 hc)
    rcases h1 with ⟨ht, hy, rfl⟩ | ⟨ht, hy, rfl⟩
    · obtain ⟨_, _, q1, _⟩ := factIn_temp (hu g hg) (by rw [hp]; omega) ht
      exact Or.inr (Or.inl ⟨m1, rfl, rfl, q1, hy⟩)
    · obtain ⟨_, _, _, q⟩ := factIn_num (hu g hg) ht
      exact Or.inr (Or.inr ⟨m1, rfl, rfl, hy, q⟩)
theorem movesF_in : ∀ (l : List Mv) {s : FS}, InU p sg sl s → (∀ m ∈ l, mvB sg sl m = true) → InU p sg sl (movesF p s l)
  | [], _, hu, _ => hu
  | m :: l, _, hu, hm => movesF_in l (moveF_in hu (hm m (by simp))) fun x hx => hm x (List.mem_cons_of_mem _ hx)

variable {st : Sto} {τ : Int → Int}
theorem moveF_hold (hn : NumOk p) (hu : InU p sg sl s) {m : Mv} (hm : mvB sg sl m = true) (hmn : m.n < 4294967296) (hf : Fits p st τ) (hh : ∀ f, s f → Holds st τ f) :
    Fits p (moveS st m) τ ∧ ∀ f, moveF p s m f → Holds (moveS st m) τ f := by
  obtain ⟨m1, m2, m3⟩ := mvB_facts hm
  have hk := isB_kind m1
  unfold moveS
  constructor
  · apply fits_put hf
    split
    · omega
    · exact getS_range hf _
  · rintro f (⟨h1, h2, h3⟩ | ⟨hc, hnn, rfl⟩ | ⟨hc, g, hg, h0, hnn, rfl⟩ | ⟨hc, g, hg, hp, h1⟩)
    · have := hh f h1
      unfold Holds at this ⊢
      rcases h2 with h2 | h2
      · obtain ⟨_, ht, _⟩ := factIn_k0 (hu f h1) h2
        rw [if_pos ht, if_pos h2] at this ⊢
        exact this
      · rw [getS_far h2]
        exact this
    · rw [holds_is, if_pos hc, getS_same hk (fun _ => by omega)]
    · have hgh := hh g hg
      obtain ⟨_, ht, _⟩ := factIn_k0 (hu g hg) h0
      unfold Holds at hgh
      rw [if_pos ht, if_pos h0] at hgh
      rw [holds_has (by omega), if_pos hc, getS_same hk (fun _ => by omega), hgh, hnn]
    · have hkf := isB_kind (m3 hc)
      have hgh := hh g hg
      have hgp : g.pl.k ≠ 0 := by rw [hp]; omega
      have hr := getS_range hf m.fr
      rcases h1 with ⟨ht, hy, rfl⟩ | ⟨ht, hy, rfl⟩
      · unfold Holds at hgh
        rw [if_pos ht, if_neg hgp, hp] at hgh
        rw [holds_has (by omega), if_neg (by rw [hc]; decide), getS_same hk, hgh]
        intro h1
        refine ⟨hr.1, ?_⟩
        rw [hgh]
        apply hf.nar
        unfold mayT at hy
        rw [h1] at hy
        simpa using hy
      · unfold Holds at hgh
        rw [if_neg (by rw [ht]; decide), hp] at hgh
        rw [holds_is, if_neg (by rw [hc]; decide)]
        obtain ⟨_, _, _, q⟩ := factIn_num (hu g hg) ht
        have := numIn_lt hn q
        rw [getS_same hk (fun _ => by omega), hgh]
theorem movesF_hold (hn : NumOk p) : ∀ (l : List Mv) {s : FS} {st : Sto}, InU p sg sl s → (∀ m ∈ l, mvB sg sl m = true) → (∀ m ∈ l, m.n < 4294967296) → Fits p st τ → (∀ f, s f → Holds st τ f) →
    Fits p (movesS st l) τ ∧ ∀ f, movesF p s l f → Holds (movesS st l) τ f
  | [], _, _, _, _, _, hf, hh => ⟨hf, hh⟩
  | m :: l, _, _, hu, hm, hl, hf, hh => by
    obtain ⟨h1, h2⟩ := moveF_hold hn hu (hm m (by simp)) (hl m (by simp)) hf hh
    exact movesF_hold hn l (moveF_in hu (hm m (by simp))) (fun x hx => hm x (List.mem_cons_of_mem _ hx)) (fun x hx => hl x (List.mem_cons_of_mem _ hx)) h1 h2

/-- a place is the register of a temporary -/
def IsReg (p : Pg) (sg sl : Int) (t : Int) (a : PlaceV) : Prop := a.k = (if wd p.wide t then 2 else 1) ∧ isB sg sl a = true

theorem giveF_in (hu : InU p sg sl s) {i : In} (hi : InsOk p i) (hg : gvs i.op = true) {a : PlaceV} (ha : IsReg p sg sl i.d a) (hc : i ∈ p.code) : InU p sg sl (giveF s i a) := by
  have hd := hi.d hg
  have hmay : ∀ t, wd p.wide t = wd p.wide i.d → mayT p.wide a.k t = true := by
    intro t ht
    unfold mayT
    rw [ha.1, ht]
    cases wd p.wide i.d <;> decide
  rintro f (h1 | ⟨h0, h1⟩ | ⟨h0, h1⟩ | rfl)
  · exact hu f h1.1
  · have hw : wd p.wide i.d = false := hi.w1 (Or.inl h0)
    rcases h1 with ⟨g, hgs, ht, hn, _, rfl⟩ | rfl | rfl
    · obtain ⟨q1, _, q2, _⟩ := factIn_num (hu g hgs) ht
      refine Or.inr (Or.inl ⟨q1, rfl, rfl, hd, ?_⟩)
      show mayT p.wide g.pl.k i.d = true
      unfold mayT
      rw [hw]
      simp [q2]
    · exact Or.inl ⟨rfl, rfl, hd, hw, Or.inr ⟨i, hc, h0, rfl⟩⟩
    · exact Or.inr (Or.inr ⟨ha.2, rfl, rfl, by have := ha.1; rw [hw] at this; show a.k ≠ 2; simp at this; omega, Or.inr ⟨i, hc, h0, rfl⟩⟩)
  · have hw := hi.w2 h0
    have hta : tempIn p i.a := hi.a (by rw [h0]; decide)
    rcases h1 with ⟨g, hgs, ht, hga, h1⟩ | rfl
    · rcases h1 with ⟨h2, h1⟩ | ⟨h2, _, rfl⟩
      · obtain ⟨_, _, _, q2, q3⟩ := factIn_k0 (hu g hgs) h2
        rw [hga, ← hw] at q2
        rcases h1 with rfl | rfl
        · exact Or.inl ⟨rfl, rfl, hd, q2, q3⟩
        · exact Or.inr (Or.inr ⟨ha.2, rfl, rfl, by have := ha.1; rw [q2] at this; show a.k ≠ 2; simp at this; omega, q3⟩)
      · obtain ⟨q1, _, _, q2⟩ := factIn_temp (hu g hgs) h2 ht
        refine Or.inr (Or.inl ⟨q1, rfl, rfl, hd, ?_⟩)
        show mayT p.wide g.pl.k i.d = true
        rw [hga] at q2
        unfold mayT at q2 ⊢
        rw [hw]
        exact q2
    · exact Or.inr (Or.inl ⟨ha.2, rfl, rfl, hta, hmay _ hw.symm⟩)
  · exact Or.inr (Or.inl ⟨ha.2, rfl, rfl, hd, hmay _ rfl⟩)

theorem giveF_hold (hn : NumOk p) (hu : InU p sg sl s) {i : In} (hi : InsOk p i) (hg : gvs i.op = true) (hc : i ∈ p.code) {a : PlaceV} (ha : IsReg p sg sl i.d a) (hf : Fits p st τ) (hh : ∀ f, s f → Holds st τ f) {v : Int}
    (hv : 0 ≤ v ∧ v < 18446744073709551616) (hv2 : wd p.wide i.d = false → v < 4294967296) (hv1 : i.op = 1 → v = (i.n : Int)) (hv3 : i.op = 2 → v = τ i.a) :
    Fits p (putS st a v) (upd τ i.d v) ∧ ∀ f, giveF s i a f → Holds (putS st a v) (upd τ i.d v) f := by
  have hk := isB_kind ha.2
  have hsame : getS (putS st a v) a = v := getS_same hk fun h1 => by
    have := ha.1
    rw [h1] at this
    have hw : wd p.wide i.d = false := by
      cases hw : wd p.wide i.d with
      | false => rfl
      | true => rw [hw] at this; simp at this
    exact ⟨hv.1, hv2 hw⟩
  refine ⟨fits_upd (fits_put hf a hv) _ hv hv2, ?_⟩
  rintro f (⟨h1, h2, h3⟩ | ⟨h0, h1⟩ | ⟨h0, h1⟩ | rfl)
  · have := hh f h1
    unfold Holds at this ⊢
    by_cases ht : f.temp = true
    · rw [if_pos ht] at this ⊢
      have hne : f.t ≠ i.d := by
        rcases h3 with h3 | h3
        · rw [ht] at h3; cases h3
        · exact h3
      have e : upd τ i.d v f.t = τ f.t := by unfold upd; rw [if_neg hne]
      rw [e]
      by_cases h0 : f.pl.k = 0
      · rw [if_pos h0] at this ⊢; exact this
      · rw [if_neg h0] at this ⊢
        rcases h2 with h2 | h2
        · exact absurd h2 h0
        · rw [getS_far h2]; exact this
    · rw [if_neg ht] at this ⊢
      have hk := isB_kind (factIn_num (hu f h1) (by simpa using ht)).1
      rcases h2 with h2 | h2
      · omega
      · rw [getS_far h2]; exact this
  · have hv1 := hv1 h0
    rcases h1 with ⟨g, hgs, ht, hn, hov, rfl⟩ | rfl | rfl
    · have := hh g hgs
      have hk := isB_kind (factIn_num (hu g hgs) ht).1
      unfold Holds at this
      rw [if_neg (by rw [ht]; decide)] at this
      rw [holds_has (by omega), getS_far hov, this, hn]
      unfold upd; rw [if_pos rfl, hv1]
    · rw [holds_kn]
      unfold upd; rw [if_pos rfl, hv1]
    · rw [holds_is, hsame, hv1]
  · have hv3 := hv3 h0
    rcases h1 with ⟨g, hgs, ht, hga, h1⟩ | rfl
    · have := hh g hgs
      unfold Holds at this
      rw [if_pos ht, hga] at this
      rcases h1 with ⟨h2, h1⟩ | ⟨h2, hov, rfl⟩
      · rw [if_pos h2] at this
        rcases h1 with rfl | rfl
        · rw [holds_kn]
          unfold upd; rw [if_pos rfl, hv3, this]
        · rw [holds_is, hsame, hv3, this]
      · rw [if_neg h2] at this
        rw [holds_has h2, getS_far hov, this]
        unfold upd; rw [if_pos rfl, hv3]
    · rw [holds_has (by omega), hsame]
      unfold upd
      split
      · rfl
      · exact hv3
  · rw [holds_has (by omega), hsame]
    unfold upd; rw [if_pos rfl]
end

end Go.Proofs.Ytodmkjeankbieab
