/- The plain laws of places as bytes: what is written is read as the same, and what is read has just those bytes. -/
import Derived.Test.YtodmkjeankbieaaCodeGet2
namespace Go.Proofs.Ytodmkjeankbieaa

/-! ### what is read, was there -/
def Eats (s : RS) (L : List Int) (s' : RS) : Prop := s'.2 = false → s.1 = L ++ s'.1 ∧ s.2 = false

theorem Eats.nil (s : RS) : Eats s [] s := fun h => ⟨rfl, h⟩
theorem Eats.trans {s s' s'' : RS} {L L' : List Int} (h : Eats s L s') (h' : Eats s' L' s'') : Eats s (L ++ L') s'' := by
  intro hb
  obtain ⟨e1, b1⟩ := h' hb
  obtain ⟨e2, b2⟩ := h b1
  exact ⟨by rw [e2, e1, List.append_assoc], b2⟩
theorem Eats.get (s : RS) : Eats s [(rget s).1] (rget s).2 := by
  obtain ⟨l, b⟩ := s
  cases l with
  | nil => intro h; simp [rget] at h
  | cons x r => intro h; exact ⟨rfl, h⟩
theorem Eats.place (s : RS) : Eats s [(rplace s).1.k, (rplace s).1.n] (rplace s).2 := (Eats.get s).trans (Eats.get _)

theorem Eats.num (s : RS) : Eats s [(rget s).1, (rget (rget s).2).1, (rget (rget (rget s).2).2).1, (rget (rget (rget (rget s).2).2).2).1] (rnum 4 0 s).2 :=
  (((Eats.get s).trans (Eats.get _)).trans (Eats.get _)).trans (Eats.get _)
theorem num_parts {s : RS} (h : ByL s) : ((rnum 4 0 s).1 : Int) = (rget s).1 * 16777216 + (rget (rget s).2).1 * 65536 + (rget (rget (rget s).2).2).1 * 256 + (rget (rget (rget (rget s).2).2).2).1 ∧
    0 ≤ (rget s).1 ∧ (rget s).1 ≤ 255 ∧ 0 ≤ (rget (rget s).2).1 ∧ (rget (rget s).2).1 ≤ 255 ∧ 0 ≤ (rget (rget (rget s).2).2).1 ∧ (rget (rget (rget s).2).2).1 ≤ 255 ∧ 0 ≤ (rget (rget (rget (rget s).2).2).2).1 ∧ (rget (rget (rget (rget s).2).2).2).1 ≤ 255 := by
  have h1 := rget_by h
  have h2 := rget_by h1.2.2
  have h3 := rget_by h2.2.2
  have h4 := rget_by h3.2.2
  refine ⟨?_, h1.1, h1.2.1, h2.1, h2.2.1, h3.1, h3.2.1, h4.1, h4.2.1⟩
  show ((((((0 * 256 % 4294967296 + (rget s).1.toNat) * 256 % 4294967296 + (rget (rget s).2).1.toNat) * 256 % 4294967296 + (rget (rget (rget s).2).2).1.toNat) * 256 % 4294967296 + (rget (rget (rget (rget s).2).2).2).1.toNat : Nat)) : Int) = _
  omega

theorem Eats.move {s : RS} (h : ByL s) : Eats s (mvNums (rmove s).1) (rmove s).2 := by
  rw [rmove_eq]
  have h1 := rplace_ok h
  have h2 := rplace_ok h1.2
  have h3 := rget_by h2.2
  have e1 := (Eats.place s).trans ((Eats.place _).trans (Eats.get (rplace (rplace s).2).2))
  generalize rplace s = p at *
  obtain ⟨⟨pk, pn⟩, s1⟩ := p
  simp only at *
  generalize rplace s1 = q at *
  obtain ⟨⟨qk, qn⟩, s2⟩ := q
  simp only at *
  generalize rget s2 = g at *
  obtain ⟨is, ⟨l3, b3⟩⟩ := g
  simp only at *
  have hb4 : ByL (l3, b3 || decide (1 < is)) := h3.2.2
  have e2 := Eats.num (l3, b3 || decide (1 < is))
  have hn := num_parts hb4
  generalize rnum 4 0 (l3, b3 || decide (1 < is)) = r at *
  obtain ⟨rn, s5⟩ := r
  simp only at *
  intro hb
  obtain ⟨x1, x2⟩ := e2 hb
  simp only [Bool.or_eq_false_iff, decide_eq_false_iff_not] at x1 x2
  obtain ⟨y1, y2⟩ := e1 x2.1
  refine ⟨?_, y2⟩
  rw [y1]
  rw [x1]
  have hi : (if decide (is = 1) = true then (1 : Int) else 0) = is := by
    by_cases h1 : is = 1
    · simp [h1]
    · simp [h1]; omega
  simp only [mvNums, hi]
  obtain ⟨n0, n1, n2, n3, n4, n5, n6, n7, n8⟩ := hn
  have g0 : (rn : Int) / 16777216 = (rget (l3, b3 || decide (1 < is))).1 := by omega
  have g1 : (rn : Int) / 65536 % 256 = (rget (rget (l3, b3 || decide (1 < is))).2).1 := by omega
  have g2 : (rn : Int) / 256 % 256 = (rget (rget (rget (l3, b3 || decide (1 < is))).2).2).1 := by omega
  have g3 : (rn : Int) % 256 = (rget (rget (rget (rget (l3, b3 || decide (1 < is))).2).2).2).1 := by omega
  rw [g0, g1, g2, g3]
  simp

theorem Eats.loop : ∀ (n : Nat) {s : RS}, ByL s → Eats s ((rloop n s).1.flatMap mvNums) (rloop n s).2 ∧ ((rloop n s).2.2 = false → (rloop n s).1.length = n)
  | 0, s, _ => ⟨Eats.nil s, fun _ => rfl⟩
  | n + 1, s, h => by
    have ih := Eats.loop n (rmove_ok h).2
    unfold rloop
    by_cases hb : s.2 = true
    · rw [if_pos hb]
      exact ⟨fun h2 => absurd (hb.symm.trans h2) (by decide), fun h2 => absurd (hb.symm.trans h2) (by decide)⟩
    · rw [if_neg hb]
      refine ⟨?_, fun h2 => by simp only [List.length_cons]; rw [ih.2 h2]⟩
      simp only [List.flatMap_cons]
      exact (Eats.move h).trans ih.1

theorem Eats.moves {s : RS} (h : ByL s) : Eats s (mvsNums (rmoves s).1) (rmoves s).2 := by
  have h1 := rget_by h
  have hl := Eats.loop (rget s).1.toNat h1.2.2
  intro hb
  have hlen : ((rmoves s).1.length : Int) = (rget s).1 := by
    have := hl.2 hb
    show (((rloop (rget s).1.toNat (rget s).2).1.length : Nat) : Int) = _
    rw [this]; omega
  have := ((Eats.get s).trans hl.1) hb
  unfold mvsNums
  rw [hlen]
  exact this

theorem Eats.row {s : RS} (h : ByL s) : Eats s (rwNums (rrow s).1) (rrow s).2 := by
  have h1 := rplace_ok h
  have h2 := rplace_ok h1.2
  have h3 := rplace_ok h2.2
  have h4 := rmoves_ok h3.2
  have := (((Eats.place s).trans ((Eats.place _).trans (Eats.place _))).trans (Eats.moves h3.2)).trans (Eats.moves h4.2)
  exact this

theorem Eats.rows : ∀ (n : Nat) {s : RS}, ByL s → Eats s ((rrows n s).1.flatMap rwNums) (rrows n s).2 ∧ ((rrows n s).2.2 = false → (rrows n s).1.length = n)
  | 0, s, _ => ⟨Eats.nil s, fun _ => rfl⟩
  | n + 1, s, h => by
    have ih := Eats.rows n (rrow_ok h).2
    unfold rrows
    by_cases hb : s.2 = true
    · rw [if_pos hb]
      exact ⟨fun h2 => absurd (hb.symm.trans h2) (by decide), fun h2 => absurd (hb.symm.trans h2) (by decide)⟩
    · rw [if_neg hb]
      refine ⟨?_, fun h2 => by simp only [List.length_cons]; rw [ih.2 h2]⟩
      simp only [List.flatMap_cons]
      exact (Eats.row h).trans ih.1

/-- WHAT IS READ HAS JUST THOSE BYTES -/
theorem read_has {bs : List Int} {p : Pd} (hby : ∀ x ∈ bs, 0 ≤ x ∧ x ≤ 255) (h : rGet bs = some p) : pdNums p = bs := by
  have h0 : ByL (bs, false) := hby
  have h1 := rget_by h0
  have h2 := rget_by h1.2.2
  have hr := Eats.rows (rget (rget (bs, false)).2).1.toNat h2.2.2
  have he := (Eats.get (bs, false)).trans ((Eats.get _).trans hr.1)
  unfold rGet at h
  by_cases hc : (rall bs).2.2 || !(rall bs).2.1.isEmpty
  · rw [if_pos hc] at h; cases h
  · rw [if_neg hc] at h
    simp only [Bool.or_eq_true, Bool.not_eq_true', not_or, Bool.not_eq_true, Bool.not_eq_false] at hc
    obtain ⟨hb, hem⟩ := hc
    have hx := he hb
    have hlen := hr.2 hb
    have hrest : (rrows (rget (rget (bs, false)).2).1.toNat (rget (rget (bs, false)).2).2).2.1 = [] := by simpa [rall] using hem
    rw [hrest, List.append_nil] at hx
    simp only [Option.some.injEq] at h
    subst h
    have e : ((rall bs).1.rows.length : Int) = (rget (rget (bs, false)).2).1 := by
      show (((rrows (rget (rget (bs, false)).2).1.toNat (rget (rget (bs, false)).2).2).1.length : Nat) : Int) = _
      rw [hlen]; omega
    unfold pdNums
    rw [e]
    exact hx.1.symm

/-! ### what is written is read as the same -/
theorem read_place (p : PlaceV) (t : List Int) : rplace (p.k :: p.n :: t, false) = (p, (t, false)) := rfl
theorem read_move (m : Mv) (hm : m.n < 4294967296) (t : List Int) : rmove (mvNums m ++ t, false) = (m, (t, false)) := by
  obtain ⟨⟨tk, tn⟩, ⟨fk, fn⟩, c, n⟩ := m
  simp only at hm
  have e : ((((((0 * 256 % 4294967296 + ((n : Int) / 16777216).toNat) * 256 % 4294967296 + ((n : Int) / 65536 % 256).toNat) * 256 % 4294967296 + ((n : Int) / 256 % 256).toNat) * 256 % 4294967296 + ((n : Int) % 256).toNat : Nat))) = n := by omega
  cases c
  · exact congrArg (fun x : Nat => (((⟨⟨tk, tn⟩, ⟨fk, fn⟩, false, x⟩ : Mv), (t, false)) : Mv × RS)) e
  · exact congrArg (fun x : Nat => (((⟨⟨tk, tn⟩, ⟨fk, fn⟩, true, x⟩ : Mv), (t, false)) : Mv × RS)) e
theorem read_loop (t : List Int) : ∀ (l : List Mv), (∀ m ∈ l, m.n < 4294967296) → rloop l.length (l.flatMap mvNums ++ t, false) = (l, (t, false))
  | [], _ => rfl
  | m :: l, h => by
    have ih := read_loop t l (fun x hx => h x (List.mem_cons_of_mem _ hx))
    rw [List.length_cons, List.flatMap_cons, List.append_assoc, rloop, read_move m (h m (by simp)), ih]
    rfl
theorem read_moves (l : List Mv) (h : ∀ m ∈ l, m.n < 4294967296) (t : List Int) : rmoves (mvsNums l ++ t, false) = (l, (t, false)) := read_loop t l h
def RwOk (r : Rw) : Prop := (∀ m ∈ r.before, m.n < 4294967296) ∧ ∀ m ∈ r.after, m.n < 4294967296
theorem read_row (r : Rw) (h : RwOk r) (t : List Int) : rrow (rwNums r ++ t, false) = (r, (t, false)) := by
  have e : rwNums r ++ t = r.d.k :: r.d.n :: r.a.k :: r.a.n :: r.b.k :: r.b.n :: (mvsNums r.before ++ (mvsNums r.after ++ t)) := by simp [rwNums]
  rw [e]
  unfold rrow
  rw [read_place, read_place, read_place, read_moves _ h.1, read_moves _ h.2]
theorem read_rows (t : List Int) : ∀ (l : List Rw), (∀ r ∈ l, RwOk r) → rrows l.length (l.flatMap rwNums ++ t, false) = (l, (t, false))
  | [], _ => rfl
  | r :: l, h => by
    have ih := read_rows t l (fun x hx => h x (List.mem_cons_of_mem _ hx))
    rw [List.length_cons, List.flatMap_cons, List.append_assoc, rrows, read_row r (h r (by simp)), ih]
    rfl
theorem read_all (p : Pd) (h : ∀ r ∈ p.rows, RwOk r) (t : List Int) : rall (pdNums p ++ t) = (p, (t, false)) := by
  have := read_rows t p.rows h
  exact congrArg (fun x : List Rw × RS => (((⟨p.slots, x.1⟩ : Pd), x.2) : Pd × RS)) this
theorem read_back (p : Pd) (h : ∀ r ∈ p.rows, RwOk r) : rGet (pdNums p) = some p := by
  have := read_all p h []
  rw [List.append_nil] at this
  exact rGet_some this

theorem rGet_rows {bs : List Int} {p : Pd} (hby : ∀ x ∈ bs, 0 ≤ x ∧ x ≤ 255) (h : rGet bs = some p) : ∀ r ∈ p.rows, RwOk r := by
  have hall : ∀ (n : Nat) (s : RS), ByL s → ∀ r ∈ (rrows n s).1, RwOk r := by
    intro n
    induction n with
    | zero => intro s _ r hr; simp [rrows] at hr
    | succ n ih =>
      intro s hs r hr
      have h1 := rrow_ok hs
      unfold rrows at hr
      split at hr
      · simp at hr
      · rcases List.mem_cons.1 hr with e | e
        · rw [e]; exact ⟨fun m hm => (h1.1.2.2.2.1 m hm).2.2, fun m hm => (h1.1.2.2.2.2 m hm).2.2⟩
        · exact ih _ h1.2 r e
  unfold rGet at h
  split at h
  · cases h
  · simp only [Option.some.injEq] at h
    subst h
    exact hall _ _ (rget_by (rget_by (s := (bs, false)) hby).2.2).2.2

/-- no shorter row of bytes is read -/
theorem read_short (p : Pd) (h : ∀ r ∈ p.rows, RwOk r) (hby : ∀ x ∈ pdNums p, 0 ≤ x ∧ x ≤ 255) (n : Nat) (hn : n < (pdNums p).length) : rGet ((pdNums p).take n) = none := by
  cases hg : rGet ((pdNums p).take n) with
  | none => rfl
  | some q =>
    exfalso
    have hby2 : ∀ x ∈ (pdNums p).take n, 0 ≤ x ∧ x ≤ 255 := fun x hx => hby x (List.mem_of_mem_take hx)
    have e1 := read_has hby2 hg
    have e2 := read_all q (rGet_rows hby2 hg) ((pdNums p).drop n)
    rw [e1, List.take_append_drop] at e2
    have e3 := read_all p h []
    rw [List.append_nil, e2] at e3
    simp only [Prod.mk.injEq] at e3
    have : ((pdNums p).drop n).length = 0 := by rw [e3.2.1]; rfl
    rw [List.length_drop] at this
    omega

end Go.Proofs.Ytodmkjeankbieaa
