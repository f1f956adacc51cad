/- From the form's reading of an argument to Lean's lists: slices of whatever, moves, rows, places, programs. -/
import Derived.Test.YtodmkjeankbieaaFrame
import Derived.Test.YtodmkjeankbieaaData
import Derived.Deep.Slices
namespace Go.Proofs.Ytodmkjeankbieaa
open Go.ChangeShapes Go.WideShapes Go.ChangeAt Go.RowKit Go.Deep

theorem list2 {α : Type} : ∀ {l : List α}, l.length = 2 → ∃ x0 x1, l = [x0, x1]
  | [x0, x1], _ => ⟨x0, x1, rfl⟩
theorem list5 {α : Type} : ∀ {l : List α}, l.length = 5 → ∃ x0 x1 x2 x3 x4, l = [x0, x1, x2, x3, x4]
  | [x0, x1, x2, x3, x4], _ => ⟨x0, x1, x2, x3, x4, rfl⟩
theorem list6 {α : Type} : ∀ {l : List α}, l.length = 6 → ∃ x0 x1 x2 x3 x4 x5, l = [x0, x1, x2, x3, x4, x5]
  | [x0, x1, x2, x3, x4, x5], _ => ⟨x0, x1, x2, x3, x4, x5, rfl⟩
theorem list8 {α : Type} : ∀ {l : List α}, l.length = 8 → ∃ x0 x1 x2 x3 x4 x5 x6 x7, l = [x0, x1, x2, x3, x4, x5, x6, x7]
  | [x0, x1, x2, x3, x4, x5, x6, x7], _ => ⟨x0, x1, x2, x3, x4, x5, x6, x7, rfl⟩

section
variable {H : Type} {enc : TypeId × Value → H} {P : Program} {w : World} {base : Nat} {spare : Nat → Bool} {held : Bool}

theorem range_sum {α : Type} (f : α → Nat) (g : Nat → Nat) : ∀ (l : List α), (∀ i x, l[i]? = some x → f x ≤ g i) → (l.map f).sum ≤ ((List.range l.length).map g).sum := by
  intro l
  induction l generalizing g with
  | nil => intro _; simp
  | cons x l ih =>
    intro h
    have h0 := h 0 x rfl
    have h1 := ih (fun i => g (i + 1)) (fun i y hy => h (i + 1) y (by simpa using hy))
    rw [List.length_cons, List.range_succ_eq_map, List.map_cons, List.map_cons, List.sum_cons, List.sum_cons, List.map_map]
    have : (List.map (g ∘ Nat.succ) (List.range l.length)).sum = (List.map (fun i => g (i + 1)) (List.range l.length)).sum := rfl
    omega

theorem bulkAll_range {H : Type} (D : Nat → DataW H) : ∀ n : Nat, Rows.uptoBulkAll ((List.range n).map D) = ((List.range n).map fun i => Rows.uptoBulk (D i)).sum := by
  have : ∀ l : List Nat, Rows.uptoBulkAll (l.map D) = (l.map fun i => Rows.uptoBulk (D i)).sum := by
    intro l
    induction l with
    | nil => simp [Rows.uptoBulkAll]
    | cons x l ih => simp [Rows.uptoBulkAll, ih]
  exact fun n => this _

theorem field_at {fs : Array Field} {n : Nat} {cs : List Value} {xs : List (DataW H × List MemPlace)} (hf : ∀ (i : Nat) (f : Field), fs[i]? = some f → DataW.trod enc P w base spare held n f.type ((cs.drop f.offset).take (P.cellsOf f.type)) = xs[i]?)
    (i : Nat) {f : Field} (hi : fs[i]? = some f) (t : TypeId) (ht : f.type = t) (off : Nat) (ho : f.offset = off) {c : Nat} (hc : P.cellsOf t = c) {one : List Value} (h1 : (cs.drop off).take c = one) : DataW.trod enc P w base spare held n t one = xs[i]? := by
  subst ht ho hc h1
  exact hf i f hi

theorem sum_ones {α : Type} : ∀ l : List α, (l.map fun _ => 1).sum = l.length
  | [] => rfl
  | _ :: l => by rw [List.map_cons, List.sum_cons, sum_ones l, List.length_cons]; omega

/-- a slice whose elements read as things of α, 's' cells each -/
theorem open_sl {α : Type} {t e : TypeId} {s : Nat} {f : α → List Value} {ok : α → Prop} {wt : α → Nat} {R : Nat → Prop} (ht : P.underlying t = some (.slice e)) (hC : P.cellsOf e = s) (hs : 0 < s) (hf : ∀ x, (f x).length = s)
    (hel : ∀ (cs : List Value) (D : DataW H) (Pl : List MemPlace) (n : Nat), cs.length = s → DataW.trod enc P w base spare held n e cs = some (D, Pl) → (∀ x ∈ Pl, R x.block) → ∃ x, cs = f x ∧ ok x ∧ wt x ≤ Rows.uptoBulk D)
    {fuel : Nat} {v : Value} {d : DataW H} {ps : List MemPlace} (h : DataW.trod enc P w base spare held fuel t [v] = some (d, ps)) (hR : ∀ x ∈ ps, R x.block) :
    ∃ (l : List α) (A : Option Addr) (c : Nat), v = .slice A l.length c ∧ l.length ≤ maxLen ∧ Reads w R s A l.length (l.flatMap f) ∧ (∀ x ∈ l, ok x) ∧ (l.map wt).sum + 1 ≤ Rows.uptoBulk d ∧ l.length ≤ c ∧ c ≤ maxLen := by
  rcases open_slice ht h with ⟨hcs, hx⟩ | ⟨a, len, cap, m, n, D, Pl, hcs, _, hlc, hcm, hm, hx, hi⟩
  · simp only [List.cons.injEq, and_true] at hcs
    simp only [Prod.mk.injEq] at hx
    obtain ⟨rfl, rfl⟩ := hx
    exact ⟨[], none, 0, by simpa using hcs, by simp, Reads.none_, by simp, by simp [Rows.uptoBulk], by simp, by simp⟩
  · simp only [List.cons.injEq, and_true] at hcs
    simp only [Prod.mk.injEq] at hx
    obtain ⟨rfl, rfl⟩ := hx
    subst hcs
    rw [hC] at hi hR
    have hlm : len ≤ m := by rw [hm]; split <;> omega
    have hex : ∀ i, i < len → ∃ x, (∀ j, j < s → w.cell? (a.add (i * s + j)) = (f x)[j]?) ∧ ok x ∧ wt x ≤ Rows.uptoBulk (D i) := by
      intro i hil
      obtain ⟨cs', hc, ht'⟩ := hi i (by omega)
      obtain ⟨_, hcl, hat⟩ := World.cells?_some hc
      obtain ⟨x, rfl, hok, hw⟩ := hel cs' (D i) (Pl i) n hcl ht' (fun y hy => hR y (List.mem_append_right _ (List.mem_flatMap.2 ⟨i, List.mem_range.2 (by omega), hy⟩)))
      exact ⟨x, fun j hj => by rw [← add_of_add]; exact hat j hj, hok, hw⟩
    have hl : ∃ l : List α, l.length = len ∧ ∀ i x, l[i]? = some x → (∀ j, j < s → w.cell? (a.add (i * s + j)) = (f x)[j]?) ∧ ok x ∧ wt x ≤ Rows.uptoBulk (D i) := by
      clear hR hlm hm hlc hi h
      induction len with
      | zero => exact ⟨[], rfl, by simp⟩
      | succ k ih =>
        obtain ⟨l, hl, h1⟩ := ih (fun i hik => hex i (by omega))
        obtain ⟨x, hx⟩ := hex k (by omega)
        refine ⟨l ++ [x], by simp [hl], fun i y hy => ?_⟩
        rcases Nat.lt_or_ge i l.length with hlt | hge
        · rw [List.getElem?_append_left hlt] at hy
          exact h1 i y hy
        · rw [List.getElem?_append_right hge] at hy
          have e : i = k := by
            rcases Nat.eq_zero_or_pos (i - l.length) with h0 | h0
            · omega
            · rw [List.getElem?_eq_none (by simp; omega)] at hy; cases hy
          subst e
          have : y = x := by simpa [hl] using hy.symm
          subst this
          exact hx
    obtain ⟨l, hll, hla⟩ := hl
    subst hll
    refine ⟨l, some a, cap, rfl, by omega, ⟨by rw [flat_len f s hf], fun hpos => ?_⟩, ?_, ?_, hlc, hcm⟩
    · have h0 := (hla 0 _ (List.getElem?_eq_getElem hpos)).1 0 hs
      have hsp : a.spot = none := by
        have hne : (f l[0])[0]? ≠ none := by
          intro hc
          rw [List.getElem?_eq_none_iff, hf] at hc
          omega
        have hne2 : w.cell? a ≠ none := by
          have e : a.add (0 * s + 0) = a := by simp [Addr.add]
          rw [e] at h0
          rw [h0]; exact hne
        cases hsp : a.spot with
        | none => rfl
        | some q =>
          exfalso
          apply hne2
          unfold World.cell?
          split
          · rw [hsp]; rfl
          · rfl
      obtain ⟨b, off, sp⟩ := a
      simp only at hsp
      subst hsp
      refine ⟨b, off, rfl, ?_, fun j u hu => ?_⟩
      · have hmem : MemPlace.cell b off ∈ MemPlace.row ⟨b, off, none⟩ (m * s) := by
          have hpos2 : 0 < m * s := Nat.mul_pos (by omega) hs
          simp only [MemPlace.row, List.mem_map, List.mem_range]
          exact ⟨0, hpos2, by simp⟩
        exact hR _ (List.mem_append_left _ hmem)
      · have hjl : j < l.length * s := by
          have := (List.getElem?_eq_some_iff.1 hu).1
          rwa [flat_len f s hf] at this
        have hk : j / s < l.length := (Nat.div_lt_iff_lt_mul hs).2 hjl
        have hx := List.getElem?_eq_getElem hk
        have hjm := Nat.mod_lt j hs
        have e : j = j / s * s + j % s := by
          have := Nat.div_add_mod j s
          rw [Nat.mul_comm] at this
          exact this.symm
        have h1 := (hla (j / s) _ hx).1 (j % s) hjm
        rw [← e] at h1
        rw [e, flat_get f s hf l _ _ _ hx hjm, ← h1] at hu
        rw [← hu]
        congr 1
        unfold Addr.add
        by_cases hz : j = 0 <;> simp [hz]
    · intro x hx
      obtain ⟨i, hi2⟩ := List.getElem?_of_mem hx
      exact (hla i x hi2).2.1
    · have h1 := range_sum wt (fun i => Rows.uptoBulk (D i)) l (fun i x hx => (hla i x hx).2.2)
      simp only [Rows.uptoBulk, bulkAll_range]
      omega

end

section
variable {H : Type} {enc : TypeId × Value → H} {w : World} {base : Nat} {spare : Nat → Bool} {held : Bool}

theorem cInt : Try.prog.cellsOf 3 = 1 := by kernel_rfl
theorem cU32 : Try.prog.cellsOf 27 = 1 := by kernel_rfl
theorem cU8 : Try.prog.cellsOf 5 = 1 := by kernel_rfl
theorem cBool : Try.prog.cellsOf 4 = 1 := by kernel_rfl
theorem cPlace : Try.prog.cellsOf 23 = 2 := by kernel_rfl
theorem cMove : Try.prog.cellsOf 99 = 6 := by kernel_rfl
theorem cRow : Try.prog.cellsOf 72 = 8 := by kernel_rfl
theorem cMoves : Try.prog.cellsOf 70 = 1 := by kernel_rfl
theorem cRows : Try.prog.cellsOf 32 = 1 := by kernel_rfl

theorem inI_of {n : Int} (h : (Lit.int .i64 n).wf = true) : inI n := by
  have := bounds_i64 h
  exact this

theorem bulk_pos {H : Type} (d : DataW H) : 1 ≤ Rows.uptoBulk d := by
  cases d with
  | lit l => cases l <;> simp [Rows.uptoBulk]
  | _ => simp [Rows.uptoBulk]

theorem open_pl {n : Nat} {cs : List Value} {y : DataW H × List MemPlace} (hl : cs.length = 2) (h : DataW.trod enc Try.prog w base spare held n 23 cs = some y) : ∃ p : PlaceV, cs = p.cells ∧ p.ok := by
  obtain ⟨xs, m, _, _, _, hxl, hf⟩ := DataW.trod_struct Try.underlying23 h
  obtain ⟨a, b, rfl⟩ := list2 hl
  · have h0 := field_at hf 0 rfl 3 rfl 0 rfl cInt (one := [a]) rfl
    have h1 := field_at hf 1 rfl 3 rfl 1 rfl cInt (one := [b]) rfl
    obtain ⟨y0, hy0⟩ : ∃ y, xs[0]? = some y := ⟨_, List.getElem?_eq_getElem (by rw [hxl]; decide)⟩
    obtain ⟨y1, hy1⟩ : ∃ y, xs[1]? = some y := ⟨_, List.getElem?_eq_getElem (by rw [hxl]; decide)⟩
    rw [hy0] at h0
    rw [hy1] at h1
    obtain ⟨k, e0, _, w0⟩ := DataW.trod_int Try.underlying3 h0
    obtain ⟨m, e1, _, w1⟩ := DataW.trod_int Try.underlying3 h1
    simp only [List.cons.injEq, and_true] at e0 e1
    subst e0 e1
    exact ⟨⟨k, m⟩, rfl, inI_of w0, inI_of w1⟩

theorem open_mv {n : Nat} {cs : List Value} {y : DataW H × List MemPlace} (hl : cs.length = 6) (h : DataW.trod enc Try.prog w base spare held n 99 cs = some y) : ∃ p : Mv, cs = p.cells ∧ p.ok := by
  obtain ⟨xs, m, _, _, _, hxl, hf⟩ := DataW.trod_struct Try.underlying99 h
  obtain ⟨a, b, c, d, e, f, rfl⟩ := list6 hl
  · have h0 := field_at hf 0 rfl 23 rfl 0 rfl cPlace (one := [a, b]) rfl
    have h1 := field_at hf 1 rfl 23 rfl 2 rfl cPlace (one := [c, d]) rfl
    have h2 := field_at hf 2 rfl 4 rfl 4 rfl cBool (one := [e]) rfl
    have h3 := field_at hf 3 rfl 27 rfl 5 rfl cU32 (one := [f]) rfl
    obtain ⟨y0, hy0⟩ : ∃ y, xs[0]? = some y := ⟨_, List.getElem?_eq_getElem (by rw [hxl]; decide)⟩
    obtain ⟨y1, hy1⟩ : ∃ y, xs[1]? = some y := ⟨_, List.getElem?_eq_getElem (by rw [hxl]; decide)⟩
    obtain ⟨y2, hy2⟩ : ∃ y, xs[2]? = some y := ⟨_, List.getElem?_eq_getElem (by rw [hxl]; decide)⟩
    obtain ⟨y3, hy3⟩ : ∃ y, xs[3]? = some y := ⟨_, List.getElem?_eq_getElem (by rw [hxl]; decide)⟩
    rw [hy0] at h0
    rw [hy1] at h1
    rw [hy2] at h2
    rw [hy3] at h3
    obtain ⟨p0, e0, o0⟩ := open_pl rfl h0
    obtain ⟨p1, e1, o1⟩ := open_pl rfl h1
    obtain ⟨bo, e2, _⟩ := DataW.trod_bool Try.underlying4 h2
    obtain ⟨nn, e3, _, w3⟩ := DataW.trod_int Try.underlying27 h3
    have b3 := bounds_u32 w3
    simp only [PlaceV.cells, List.cons.injEq, and_true] at e0 e1 e2 e3
    obtain ⟨rfl, rfl⟩ := e0
    obtain ⟨rfl, rfl⟩ := e1
    subst e2 e3
    exact ⟨⟨p0, p1, bo, nn.toNat⟩, by simp [Mv.cells]; omega, o0, o1, by simp only; omega⟩

theorem open_mvs {R : Nat → Prop} {fuel : Nat} {v : Value} {d : DataW H} {ps : List MemPlace} (h : DataW.trod enc Try.prog w base spare held fuel 70 [v] = some (d, ps)) (hR : ∀ x ∈ ps, R x.block) :
    ∃ l : List Mv, RdMv w R v l ∧ l.length + 1 ≤ Rows.uptoBulk d := by
  obtain ⟨l, A, c, hv, hl, hr, ho, hb, _, _⟩ := open_sl (f := Mv.cells) (ok := Mv.ok) (wt := fun _ => 1) (R := R) Try.underlying70 cMove (by decide) Mv.len
    (fun cs D Pl n hl ht _ => by
      obtain ⟨p, e, o⟩ := open_mv hl ht
      exact ⟨p, e, o, bulk_pos _⟩) h hR
  refine ⟨l, ⟨A, c, hv, hl, hr, ho⟩, ?_⟩
  have e := sum_ones l
  omega

/-- the weight of a row -/
def rwWt (x : RwV) : Nat := x.r.before.length + x.r.after.length + 1

theorem open_rw {R : Nat → Prop} {n : Nat} {cs : List Value} {D : DataW H} {Pl : List MemPlace} (hl : cs.length = 8) (h : DataW.trod enc Try.prog w base spare held n 72 cs = some (D, Pl)) (hR : ∀ x ∈ Pl, R x.block) :
    ∃ p : RwV, cs = p.cells ∧ p.ok w R ∧ rwWt p ≤ Rows.uptoBulk D := by
  obtain ⟨xs, m, _, hx, _, hxl, hf⟩ := DataW.trod_struct Try.underlying72 h
  simp only [Prod.mk.injEq] at hx
  obtain ⟨rfl, rfl⟩ := hx
  obtain ⟨a, b, c, d, e, f, g, g2, rfl⟩ := list8 hl
  obtain ⟨y0, y1, y2, y3, y4, rfl⟩ := list5 (hxl.trans (by decide))
  · · have h0 := field_at hf 0 rfl 23 rfl 0 rfl cPlace (one := [a, b]) rfl
      have h1 := field_at hf 1 rfl 23 rfl 2 rfl cPlace (one := [c, d]) rfl
      have h2 := field_at hf 2 rfl 23 rfl 4 rfl cPlace (one := [e, f]) rfl
      have h3 := field_at hf 3 rfl 70 rfl 6 rfl cMoves (one := [g]) rfl
      have h4 := field_at hf 4 rfl 70 rfl 7 rfl cMoves (one := [g2]) rfl
      simp only [List.getElem?_cons_zero, List.getElem?_cons_succ] at h0 h1 h2 h3 h4
      obtain ⟨p0, e0, o0⟩ := open_pl rfl h0
      obtain ⟨p1, e1, o1⟩ := open_pl rfl h1
      obtain ⟨p2, e2, o2⟩ := open_pl rfl h2
      obtain ⟨l3, r3, b3⟩ := open_mvs (R := R) h3 (fun x hx => hR x (by simp; exact .inr (.inr (.inr (.inl hx)))))
      obtain ⟨l4, r4, b4⟩ := open_mvs (R := R) h4 (fun x hx => hR x (by simp; exact .inr (.inr (.inr (.inr hx)))))
      simp only [PlaceV.cells, List.cons.injEq, and_true] at e0 e1 e2
      obtain ⟨rfl, rfl⟩ := e0
      obtain ⟨rfl, rfl⟩ := e1
      obtain ⟨rfl, rfl⟩ := e2
      refine ⟨⟨⟨p0, p1, p2, l3, l4⟩, g, g2⟩, rfl, ⟨o0, o1, o2, r3, r4⟩, ?_⟩
      simp only [rwWt, Rows.uptoBulk, Rows.uptoBulkAll, List.map_cons, List.map_nil]
      omega

theorem open_rws {R : Nat → Prop} {fuel : Nat} {v : Value} {d : DataW H} {ps : List MemPlace} (h : DataW.trod enc Try.prog w base spare held fuel 32 [v] = some (d, ps)) (hR : ∀ x ∈ ps, R x.block) :
    ∃ l : List RwV, RdRw w R v l ∧ (l.map rwWt).sum + 1 ≤ Rows.uptoBulk d := by
  obtain ⟨l, A, c, hv, hl, hr, ho, hb, _, _⟩ := open_sl (f := RwV.cells) (ok := fun x => x.ok w R) (wt := rwWt) (R := R) Try.underlying32 cRow (by decide) RwV.len
    (fun cs D Pl n hl ht hp => open_rw hl ht hp) h hR
  exact ⟨l, ⟨A, c, hv, hl, hr, ho⟩, hb⟩

/-- the weight of places -/
def pdWt (p : Pd) : Nat := (p.rows.map fun r => r.before.length + r.after.length + 1).sum

set_option maxRecDepth 100000 in
theorem open_pd {R : Nat → Prop} {r : Reach} {b0 : Nat} {v : Value} {d : DataW H} {ps : List MemPlace} (hv : Value.okWide Try.prog w r b0 34 v) (h : DataW.Trod enc Try.prog w base spare held 34 v d ps) (hR : ∀ x ∈ ps, R x.block) :
    ∃ p : Pd, RdPd w R v p ∧ pdWt p ≤ Rows.uptoBulk d := by
  obtain ⟨c0, c1, y0, y1, m, rfl, rfl, rfl, f0, f1⟩ := Joins.open_agg2 Try.underlying34 (by kernel_rfl) (by kernel_rfl) hv h
  obtain ⟨n, e0, _, w0⟩ := DataW.trod_int Try.underlying3 f0
  simp only [List.cons.injEq, and_true] at e0
  subst e0
  obtain ⟨l, hl, hb⟩ := open_rws (R := R) f1 (fun x hx => hR x (by simp; exact .inr hx))
  refine ⟨⟨n, l.map (·.r)⟩, ⟨c1, l, rfl, inI_of w0, hl, rfl⟩, ?_⟩
  have e : pdWt ⟨n, l.map (·.r)⟩ = (l.map rwWt).sum := by simp only [pdWt, List.map_map]; rfl
  rw [e]
  simp only [Rows.uptoBulk, Rows.uptoBulkAll]
  omega
theorem flat_one (f : Int → Value) : ∀ l : List Int, (l.flatMap fun x => [f x]) = l.map f
  | [] => rfl
  | x :: l => by rw [List.flatMap_cons, flat_one f l]; rfl

end
end Go.Proofs.Ytodmkjeankbieaa
