/- Texts of this claim, packed. -/
import Derived.Test.YtodmkjeankbieabKAllk0
import Derived.Test.YtodmkjeankbieabRows
import Derived.WalkKit
import Derived.ProofKit
import Derived.OpenShut
import Derived.Carry
import Derived.Lib.SmallJoins
import Derived.Deep.Slices
import Derived.Test.YtodmkjeankbieabProg
import Derived.WalkSpells
import Derived.WalkLawsBesides
import Derived.Lib.Hide
import Derived.Outline
import Derived.BigQuiet
import Derived.Deep.QuietTactic
set_option linter.all false
namespace Go.Proofs.Ytodmkjeankbieab
open Go.ChangeShapes Go.WideShapes Go.ChangeAt Go.RowKit

theorem own : ownKnob Try.prog.godebug = none := by kernel_rfl
theorem laidOk : laidOutB Try.prog = true := by kernel_rfl

theorem trodAll_stays {H : Type} {enc : TypeId × Value → H} {P : Program} (laidOk : laidOutB P = true) {W W' : World} (hb : Below W.heap.size W W') : ∀ (ts : List TypeId) (vs : List Value) (ds : List (DataW H)) (ps : List MemPlace),
   ts.all (fun t => P.readableRec t && decide (t < P.types.size)) = true → (∀ x ∈ ps, x.block < W.heap.size) →
   DataW.TrodAll enc P W 0 (fun _ => true) true ts vs ds ps → DataW.TrodAll enc P W' 0 (fun b => decide (b < W.heap.size)) true ts vs ds ps
 | [], [], [], _, _, _, h => h
 | t :: ts, v :: vs, d :: ds, ps, hr, hlt, h => by
   obtain ⟨p, q, h1, h2, rfl⟩ := h
   simp only [List.all_cons, Bool.and_eq_true, decide_eq_true_eq] at hr
   refine ⟨p, q, Below.trod laidOk hr.1.1 hr.1.2 h1 hb (fun x hx => hlt x (List.mem_append_left _ hx)), ?_, rfl⟩
   exact trodAll_stays laidOk hb ts vs ds q hr.2 (fun x hx => hlt x (List.mem_append_right _ hx)) h2
 | [], _ :: _, _, _, _, _, h => h.elim
 | [], [], _ :: _, _, _, _, h => h.elim
 | _ :: _, [], _, _, _, _, h => h.elim
 | _ :: _, _ :: _, [], _, _, _, h => h.elim

theorem law_post {H : Type} {enc : TypeId × Value → H} {f : Func} {s : ChangeSpec} {W W' : World} {args : Array Value} {ds gs : List (DataW H)} {before : List MemPlace}
   (hr : (f.params.toList.all fun t => Try.prog.readableRec t && decide (t < Try.prog.types.size)) = true) (hv : s.vars = []) (hres : f.resultTypes = #[4]) (hW : DataW.Whole enc Try.prog f.params.toList s.vars false W args.toList ds gs before)
   (hfn : s.fn H (ds ++ gs) = { results := [.lit (.bool true)], args := ds }) (hb : Below W.heap.size W W') :
   ∃ v, Ending.returned (.bool true) = .returned v ∧ s.post enc Try.prog f false true false false W args v W' := by
 have hlt : ∀ x ∈ before, x.block < W.heap.size := fun x hx => hW.lt x hx
 have hW' := hW
 obtain ⟨p, q, hA, hV, rfl, _, _⟩ := hW
 have hq : q = [] := by
   rw [hv] at hV
   exact (trodVars_none hV).2
 subst hq
 have hg : gs = [] := by
   rw [hv] at hV
   exact (trodVars_none hV).1
 subst hg
 refine ⟨_, rfl, ds, [], p ++ [], [], p, [], hW', ?_, ?_, ?_, hb.frame _, fun h => by cases h⟩
 · rw [hfn, hres]
   exact trodAll_cons_mk (shut_bool Try.underlying4 _) trodAll_mk0
 · rw [hfn]
   exact trodAll_stays laidOk hb _ _ _ _ hr (fun x hx => hlt x (by simpa using hx)) hA
 · rw [hv]
   have : (s.fn H (ds ++ [])).vars = [] := by rw [hfn]
   rw [this]
   rfl

end Go.Proofs.Ytodmkjeankbieab


namespace Go.Proofs.Ytodmkjeankbieab
open Go.ChangeShapes Go.WideShapes Go.ChangeAt Go.RowKit Go.Deep

theorem list2 {α : Type} : ∀ {l : List α}, l.length = 2 → ∃ x0 x1, l = [x0, x1]
 | [x0, x1], _ => ⟨x0, x1, rfl⟩
theorem list5 {α : Type} : ∀ {l : List α}, l.length = 5 → ∃ x0 x1 x2 x3 x4, l = [x0, x1, x2, x3, x4]
 | [x0, x1, x2, x3, x4], _ => ⟨x0, x1, x2, x3, x4, rfl⟩
theorem list6 {α : Type} : ∀ {l : List α}, l.length = 6 → ∃ x0 x1 x2 x3 x4 x5, l = [x0, x1, x2, x3, x4, x5]
 | [x0, x1, x2, x3, x4, x5], _ => ⟨x0, x1, x2, x3, x4, x5, rfl⟩
theorem list8 {α : Type} : ∀ {l : List α}, l.length = 8 → ∃ x0 x1 x2 x3 x4 x5 x6 x7, l = [x0, x1, x2, x3, x4, x5, x6, x7]
 | [x0, x1, x2, x3, x4, x5, x6, x7], _ => ⟨x0, x1, x2, x3, x4, x5, x6, x7, rfl⟩

section
variable {H : Type} {enc : TypeId × Value → H} {P : Program} {w : World} {base : Nat} {spare : Nat → Bool} {held : Bool}

theorem range_sum {α : Type} (f : α → Nat) (g : Nat → Nat) : ∀ (l : List α), (∀ i x, l[i]? = some x → f x ≤ g i) → (l.map f).sum ≤ ((List.range l.length).map g).sum := by
 intro l
 induction l generalizing g with
 | nil => intro _; simp
 | cons x l ih =>
   intro h
   have h0 := h 0 x rfl
   have h1 := ih (fun i => g (i + 1)) (fun i y hy => h (i + 1) y (by simpa using hy))
   rw [List.length_cons, List.range_succ_eq_map, List.map_cons, List.map_cons, List.sum_cons, List.sum_cons, List.map_map]
   have : (List.map (g ∘ Nat.succ) (List.range l.length)).sum = (List.map (fun i => g (i + 1)) (List.range l.length)).sum := rfl
   omega

theorem bulkAll_range {H : Type} (D : Nat → DataW H) : ∀ n : Nat, Rows.uptoBulkAll ((List.range n).map D) = ((List.range n).map fun i => Rows.uptoBulk (D i)).sum := by
 have : ∀ l : List Nat, Rows.uptoBulkAll (l.map D) = (l.map fun i => Rows.uptoBulk (D i)).sum := by
   intro l
   induction l with
   | nil => simp [Rows.uptoBulkAll]
   | cons x l ih => simp [Rows.uptoBulkAll, ih]
 exact fun n => this _

theorem field_at {fs : Array Field} {n : Nat} {cs : List Value} {xs : List (DataW H × List MemPlace)} (hf : ∀ (i : Nat) (f : Field), fs[i]? = some f → DataW.trod enc P w base spare held n f.type ((cs.drop f.offset).take (P.cellsOf f.type)) = xs[i]?)
   (i : Nat) {f : Field} (hi : fs[i]? = some f) (t : TypeId) (ht : f.type = t) (off : Nat) (ho : f.offset = off) {c : Nat} (hc : P.cellsOf t = c) {one : List Value} (h1 : (cs.drop off).take c = one) : DataW.trod enc P w base spare held n t one = xs[i]? := by
 subst ht ho hc h1
 exact hf i f hi

theorem sum_ones {α : Type} : ∀ l : List α, (l.map fun _ => 1).sum = l.length
 | [] => rfl
 | _ :: l => by rw [List.map_cons, List.sum_cons, sum_ones l, List.length_cons]; omega

theorem open_sl {α : Type} {t e : TypeId} {s : Nat} {f : α → List Value} {ok : α → Prop} {wt : α → Nat} {R : Nat → Prop} (ht : P.underlying t = some (.slice e)) (hC : P.cellsOf e = s) (hs : 0 < s) (hf : ∀ x, (f x).length = s)
   (hel : ∀ (cs : List Value) (D : DataW H) (Pl : List MemPlace) (n : Nat), cs.length = s → DataW.trod enc P w base spare held n e cs = some (D, Pl) → (∀ x ∈ Pl, R x.block) → ∃ x, cs = f x ∧ ok x ∧ wt x ≤ Rows.uptoBulk D)
   {fuel : Nat} {v : Value} {d : DataW H} {ps : List MemPlace} (h : DataW.trod enc P w base spare held fuel t [v] = some (d, ps)) (hR : ∀ x ∈ ps, R x.block) :
   ∃ (l : List α) (A : Option Addr) (c : Nat), v = .slice A l.length c ∧ l.length ≤ maxLen ∧ Reads w R s A l.length (l.flatMap f) ∧ (∀ x ∈ l, ok x) ∧ (l.map wt).sum + 1 ≤ Rows.uptoBulk d ∧ l.length ≤ c ∧ c ≤ maxLen := by
 rcases open_slice ht h with ⟨hcs, hx⟩ | ⟨a, len, cap, m, n, D, Pl, hcs, _, hlc, hcm, hm, hx, hi⟩
 · simp only [List.cons.injEq, and_true] at hcs
   simp only [Prod.mk.injEq] at hx
   obtain ⟨rfl, rfl⟩ := hx
   exact ⟨[], none, 0, by simpa using hcs, by simp, Reads.none_, by simp, by simp [Rows.uptoBulk], by simp, by simp⟩
 · simp only [List.cons.injEq, and_true] at hcs
   simp only [Prod.mk.injEq] at hx
   obtain ⟨rfl, rfl⟩ := hx
   subst hcs
   rw [hC] at hi hR
   have hlm : len ≤ m := by rw [hm]; split <;> omega
   have hex : ∀ i, i < len → ∃ x, (∀ j, j < s → w.cell? (a.add (i * s + j)) = (f x)[j]?) ∧ ok x ∧ wt x ≤ Rows.uptoBulk (D i) := by
     intro i hil
     obtain ⟨cs', hc, ht'⟩ := hi i (by omega)
     obtain ⟨_, hcl, hat⟩ := World.cells?_some hc
     obtain ⟨x, rfl, hok, hw⟩ := hel cs' (D i) (Pl i) n hcl ht' (fun y hy => hR y (List.mem_append_right _ (List.mem_flatMap.2 ⟨i, List.mem_range.2 (by omega), hy⟩)))
     exact ⟨x, fun j hj => by rw [← add_of_add]; exact hat j hj, hok, hw⟩
   have hl : ∃ l : List α, l.length = len ∧ ∀ i x, l[i]? = some x → (∀ j, j < s → w.cell? (a.add (i * s + j)) = (f x)[j]?) ∧ ok x ∧ wt x ≤ Rows.uptoBulk (D i) := by
     clear hR hlm hm hlc hi h
     induction len with
     | zero => exact ⟨[], rfl, by simp⟩
     | succ k ih =>
       obtain ⟨l, hl, h1⟩ := ih (fun i hik => hex i (by omega))
       obtain ⟨x, hx⟩ := hex k (by omega)
       refine ⟨l ++ [x], by simp [hl], fun i y hy => ?_⟩
       rcases Nat.lt_or_ge i l.length with hlt | hge
       · rw [List.getElem?_append_left hlt] at hy
         exact h1 i y hy
       · rw [List.getElem?_append_right hge] at hy
         have e : i = k := by
           rcases Nat.eq_zero_or_pos (i - l.length) with h0 | h0
           · omega
           · rw [List.getElem?_eq_none (by simp; omega)] at hy; cases hy
         subst e
         have : y = x := by simpa [hl] using hy.symm
         subst this
         exact hx
   obtain ⟨l, hll, hla⟩ := hl
   subst hll
   refine ⟨l, some a, cap, rfl, by omega, ⟨by rw [flat_len f s hf], fun hpos => ?_⟩, ?_, ?_, hlc, hcm⟩
   · have h0 := (hla 0 _ (List.getElem?_eq_getElem hpos)).1 0 hs
     have hsp : a.spot = none := by
       have hne : (f l[0])[0]? ≠ none := by
         intro hc
         rw [List.getElem?_eq_none_iff, hf] at hc
         omega
       have hne2 : w.cell? a ≠ none := by
         have e : a.add (0 * s + 0) = a := by simp [Addr.add]
         rw [e] at h0
         rw [h0]; exact hne
       cases hsp : a.spot with
       | none => rfl
       | some q =>
         exfalso
         apply hne2
         unfold World.cell?
         split
         · rw [hsp]; rfl
         · rfl
     obtain ⟨b, off, sp⟩ := a
     simp only at hsp
     subst hsp
     refine ⟨b, off, rfl, ?_, fun j u hu => ?_⟩
     · have hmem : MemPlace.cell b off ∈ MemPlace.row ⟨b, off, none⟩ (m * s) := by
         have hpos2 : 0 < m * s := Nat.mul_pos (by omega) hs
         simp only [MemPlace.row, List.mem_map, List.mem_range]
         exact ⟨0, hpos2, by simp⟩
       exact hR _ (List.mem_append_left _ hmem)
     · have hjl : j < l.length * s := by
         have := (List.getElem?_eq_some_iff.1 hu).1
         rwa [flat_len f s hf] at this
       have hk : j / s < l.length := (Nat.div_lt_iff_lt_mul hs).2 hjl
       have hx := List.getElem?_eq_getElem hk
       have hjm := Nat.mod_lt j hs
       have e : j = j / s * s + j % s := by
         have := Nat.div_add_mod j s
         rw [Nat.mul_comm] at this
         exact this.symm
       have h1 := (hla (j / s) _ hx).1 (j % s) hjm
       rw [← e] at h1
       rw [e, flat_get f s hf l _ _ _ hx hjm, ← h1] at hu
       rw [← hu]
       congr 1
       unfold Addr.add
       by_cases hz : j = 0 <;> simp [hz]
   · intro x hx
     obtain ⟨i, hi2⟩ := List.getElem?_of_mem hx
     exact (hla i x hi2).2.1
   · have h1 := range_sum wt (fun i => Rows.uptoBulk (D i)) l (fun i x hx => (hla i x hx).2.2)
     simp only [Rows.uptoBulk, bulkAll_range]
     omega

end

section
variable {H : Type} {enc : TypeId × Value → H} {w : World} {base : Nat} {spare : Nat → Bool} {held : Bool}

theorem cInt : Try.prog.cellsOf 3 = 1 := by kernel_rfl
theorem cU32 : Try.prog.cellsOf 36 = 1 := by kernel_rfl
theorem cBool : Try.prog.cellsOf 4 = 1 := by kernel_rfl
theorem cPlace : Try.prog.cellsOf 57 = 2 := by kernel_rfl
theorem cMove : Try.prog.cellsOf 74 = 6 := by kernel_rfl
theorem cRow : Try.prog.cellsOf 60 = 8 := by kernel_rfl
theorem cMoves : Try.prog.cellsOf 58 = 1 := by kernel_rfl
theorem inI_of {n : Int} (h : (Lit.int .i64 n).wf = true) : inI n := by
 have := bounds_i64 h
 exact this

theorem bulk_pos {H : Type} (d : DataW H) : 1 ≤ Rows.uptoBulk d := by
 cases d with
 | lit l => cases l <;> simp [Rows.uptoBulk]
 | _ => simp [Rows.uptoBulk]

theorem open_pl {n : Nat} {cs : List Value} {y : DataW H × List MemPlace} (hl : cs.length = 2) (h : DataW.trod enc Try.prog w base spare held n 57 cs = some y) : ∃ p : PlaceV, cs = p.cells ∧ p.ok := by
 obtain ⟨xs, m, _, _, _, hxl, hf⟩ := DataW.trod_struct Try.underlying57 h
 obtain ⟨a, b, rfl⟩ := list2 hl
 · have h0 := field_at hf 0 rfl 3 rfl 0 rfl cInt (one := [a]) rfl
   have h1 := field_at hf 1 rfl 3 rfl 1 rfl cInt (one := [b]) rfl
   obtain ⟨y0, hy0⟩ : ∃ y, xs[0]? = some y := ⟨_, List.getElem?_eq_getElem (by rw [hxl]; decide)⟩
   obtain ⟨y1, hy1⟩ : ∃ y, xs[1]? = some y := ⟨_, List.getElem?_eq_getElem (by rw [hxl]; decide)⟩
   rw [hy0] at h0
   rw [hy1] at h1
   obtain ⟨k, e0, _, w0⟩ := DataW.trod_int Try.underlying3 h0
   obtain ⟨m, e1, _, w1⟩ := DataW.trod_int Try.underlying3 h1
   simp only [List.cons.injEq, and_true] at e0 e1
   subst e0 e1
   exact ⟨⟨k, m⟩, rfl, inI_of w0, inI_of w1⟩

theorem open_mv {n : Nat} {cs : List Value} {y : DataW H × List MemPlace} (hl : cs.length = 6) (h : DataW.trod enc Try.prog w base spare held n 74 cs = some y) : ∃ p : Mv, cs = p.cells ∧ p.ok := by
 obtain ⟨xs, m, _, _, _, hxl, hf⟩ := DataW.trod_struct Try.underlying74 h
 obtain ⟨a, b, c, d, e, f, rfl⟩ := list6 hl
 · have h0 := field_at hf 0 rfl 57 rfl 0 rfl cPlace (one := [a, b]) rfl
   have h1 := field_at hf 1 rfl 57 rfl 2 rfl cPlace (one := [c, d]) rfl
   have h2 := field_at hf 2 rfl 4 rfl 4 rfl cBool (one := [e]) rfl
   have h3 := field_at hf 3 rfl 36 rfl 5 rfl cU32 (one := [f]) rfl
   obtain ⟨y0, hy0⟩ : ∃ y, xs[0]? = some y := ⟨_, List.getElem?_eq_getElem (by rw [hxl]; decide)⟩
   obtain ⟨y1, hy1⟩ : ∃ y, xs[1]? = some y := ⟨_, List.getElem?_eq_getElem (by rw [hxl]; decide)⟩
   obtain ⟨y2, hy2⟩ : ∃ y, xs[2]? = some y := ⟨_, List.getElem?_eq_getElem (by rw [hxl]; decide)⟩
   obtain ⟨y3, hy3⟩ : ∃ y, xs[3]? = some y := ⟨_, List.getElem?_eq_getElem (by rw [hxl]; decide)⟩
   rw [hy0] at h0
   rw [hy1] at h1
   rw [hy2] at h2
   rw [hy3] at h3
   obtain ⟨p0, e0, o0⟩ := open_pl rfl h0
   obtain ⟨p1, e1, o1⟩ := open_pl rfl h1
   obtain ⟨bo, e2, _⟩ := DataW.trod_bool Try.underlying4 h2
   obtain ⟨nn, e3, _, w3⟩ := DataW.trod_int Try.underlying36 h3
   have b3 := bounds_u32 w3
   simp only [PlaceV.cells, List.cons.injEq, and_true] at e0 e1 e2 e3
   obtain ⟨rfl, rfl⟩ := e0
   obtain ⟨rfl, rfl⟩ := e1
   subst e2 e3
   exact ⟨⟨p0, p1, bo, nn.toNat⟩, by simp [Mv.cells]; omega, o0, o1, by simp only; omega⟩

theorem open_mvs {R : Nat → Prop} {fuel : Nat} {v : Value} {d : DataW H} {ps : List MemPlace} (h : DataW.trod enc Try.prog w base spare held fuel 58 [v] = some (d, ps)) (hR : ∀ x ∈ ps, R x.block) :
   ∃ l : List Mv, RdMv w R v l ∧ l.length + 1 ≤ Rows.uptoBulk d := by
 obtain ⟨l, A, c, hv, hl, hr, ho, hb, _, _⟩ := open_sl (f := Mv.cells) (ok := Mv.ok) (wt := fun _ => 1) (R := R) Try.underlying58 cMove (by decide) Mv.len
   (fun cs D Pl n hl ht _ => by
     obtain ⟨p, e, o⟩ := open_mv hl ht
     exact ⟨p, e, o, bulk_pos _⟩) h hR
 refine ⟨l, ⟨A, c, hv, hl, hr, ho⟩, ?_⟩
 have e := sum_ones l
 omega

def rwWt (x : RwV) : Nat := x.r.before.length + x.r.after.length + 1

theorem open_rw {R : Nat → Prop} {n : Nat} {cs : List Value} {D : DataW H} {Pl : List MemPlace} (hl : cs.length = 8) (h : DataW.trod enc Try.prog w base spare held n 60 cs = some (D, Pl)) (hR : ∀ x ∈ Pl, R x.block) :
   ∃ p : RwV, cs = p.cells ∧ p.ok w R ∧ rwWt p ≤ Rows.uptoBulk D := by
 obtain ⟨xs, m, _, hx, _, hxl, hf⟩ := DataW.trod_struct Try.underlying60 h
 simp only [Prod.mk.injEq] at hx
 obtain ⟨rfl, rfl⟩ := hx
 obtain ⟨a, b, c, d, e, f, g, g2, rfl⟩ := list8 hl
 obtain ⟨y0, y1, y2, y3, y4, rfl⟩ := list5 (hxl.trans (by decide))
 · · have h0 := field_at hf 0 rfl 57 rfl 0 rfl cPlace (one := [a, b]) rfl
     have h1 := field_at hf 1 rfl 57 rfl 2 rfl cPlace (one := [c, d]) rfl
     have h2 := field_at hf 2 rfl 57 rfl 4 rfl cPlace (one := [e, f]) rfl
     have h3 := field_at hf 3 rfl 58 rfl 6 rfl cMoves (one := [g]) rfl
     have h4 := field_at hf 4 rfl 58 rfl 7 rfl cMoves (one := [g2]) rfl
     simp only [List.getElem?_cons_zero, List.getElem?_cons_succ] at h0 h1 h2 h3 h4
     obtain ⟨p0, e0, o0⟩ := open_pl rfl h0
     obtain ⟨p1, e1, o1⟩ := open_pl rfl h1
     obtain ⟨p2, e2, o2⟩ := open_pl rfl h2
     obtain ⟨l3, r3, b3⟩ := open_mvs (R := R) h3 (fun x hx => hR x (by simp; exact .inr (.inr (.inr (.inl hx)))))
     obtain ⟨l4, r4, b4⟩ := open_mvs (R := R) h4 (fun x hx => hR x (by simp; exact .inr (.inr (.inr (.inr hx)))))
     simp only [PlaceV.cells, List.cons.injEq, and_true] at e0 e1 e2
     obtain ⟨rfl, rfl⟩ := e0
     obtain ⟨rfl, rfl⟩ := e1
     obtain ⟨rfl, rfl⟩ := e2
     refine ⟨⟨⟨p0, p1, p2, l3, l4⟩, g, g2⟩, rfl, ⟨o0, o1, o2, r3, r4⟩, ?_⟩
     simp only [rwWt, Rows.uptoBulk, Rows.uptoBulkAll, List.map_cons, List.map_nil]
     omega

theorem open_rws {R : Nat → Prop} {fuel : Nat} {v : Value} {d : DataW H} {ps : List MemPlace} (h : DataW.trod enc Try.prog w base spare held fuel 48 [v] = some (d, ps)) (hR : ∀ x ∈ ps, R x.block) :
   ∃ l : List RwV, RdRw w R v l ∧ (l.map rwWt).sum + 1 ≤ Rows.uptoBulk d := by
 obtain ⟨l, A, c, hv, hl, hr, ho, hb, _, _⟩ := open_sl (f := RwV.cells) (ok := fun x => x.ok w R) (wt := rwWt) (R := R) Try.underlying48 cRow (by decide) RwV.len
   (fun cs D Pl n hl ht hp => open_rw hl ht hp) h hR
 exact ⟨l, ⟨A, c, hv, hl, hr, ho⟩, hb⟩

def pdWt (p : Pd) : Nat := (p.rows.map fun r => r.before.length + r.after.length + 1).sum

set_option maxRecDepth 100000 in
theorem open_pd {R : Nat → Prop} {r : Reach} {b0 : Nat} {v : Value} {d : DataW H} {ps : List MemPlace} (hv : Value.okWide Try.prog w r b0 50 v) (h : DataW.Trod enc Try.prog w base spare held 50 v d ps) (hR : ∀ x ∈ ps, R x.block) :
   ∃ p : Pd, RdPd w R v p ∧ pdWt p ≤ Rows.uptoBulk d := by
 obtain ⟨c0, c1, y0, y1, m, rfl, rfl, rfl, f0, f1⟩ := Joins.open_agg2 Try.underlying50 (by kernel_rfl) (by kernel_rfl) hv h
 obtain ⟨n, e0, _, w0⟩ := DataW.trod_int Try.underlying3 f0
 simp only [List.cons.injEq, and_true] at e0
 subst e0
 obtain ⟨l, hl, hb⟩ := open_rws (R := R) f1 (fun x hx => hR x (by simp; exact .inr hx))
 refine ⟨⟨n, l.map (·.r)⟩, ⟨c1, l, rfl, inI_of w0, hl, rfl⟩, ?_⟩
 have e : pdWt ⟨n, l.map (·.r)⟩ = (l.map rwWt).sum := by simp only [pdWt, List.map_map]; rfl
 rw [e]
 simp only [Rows.uptoBulk, Rows.uptoBulkAll]
 omega
end
end Go.Proofs.Ytodmkjeankbieab


namespace Go.Proofs.Ytodmkjeankbieab
open Go.ChangeShapes Go.WideShapes Go.RowKit

section
variable {H : Type} {enc : TypeId × Value → H} {w : World} {base : Nat} {spare : Nat → Bool} {held : Bool}

theorem cIns : Try.prog.cellsOf 45 = 6 := by kernel_rfl

theorem open_in {n : Nat} {cs : List Value} {y : DataW H × List MemPlace} (hl : cs.length = 6) (h : DataW.trod enc Try.prog w base spare held n 45 cs = some y) : ∃ p : In, cs = p.cells ∧ p.ok := by
 obtain ⟨xs, m, _, _, _, hxl, hf⟩ := DataW.trod_struct Try.underlying45 h
 obtain ⟨a, b, c, d, e, f, rfl⟩ := list6 hl
 have h0 := field_at hf 0 rfl 3 rfl 0 rfl cInt (one := [a]) rfl
 have h1 := field_at hf 1 rfl 3 rfl 1 rfl cInt (one := [b]) rfl
 have h2 := field_at hf 2 rfl 3 rfl 2 rfl cInt (one := [c]) rfl
 have h3 := field_at hf 3 rfl 3 rfl 3 rfl cInt (one := [d]) rfl
 have h4 := field_at hf 4 rfl 3 rfl 4 rfl cInt (one := [e]) rfl
 have h5 := field_at hf 5 rfl 36 rfl 5 rfl cU32 (one := [f]) rfl
 obtain ⟨y0, hy0⟩ : ∃ y, xs[0]? = some y := ⟨_, List.getElem?_eq_getElem (by rw [hxl]; decide)⟩
 obtain ⟨y1, hy1⟩ : ∃ y, xs[1]? = some y := ⟨_, List.getElem?_eq_getElem (by rw [hxl]; decide)⟩
 obtain ⟨y2, hy2⟩ : ∃ y, xs[2]? = some y := ⟨_, List.getElem?_eq_getElem (by rw [hxl]; decide)⟩
 obtain ⟨y3, hy3⟩ : ∃ y, xs[3]? = some y := ⟨_, List.getElem?_eq_getElem (by rw [hxl]; decide)⟩
 obtain ⟨y4, hy4⟩ : ∃ y, xs[4]? = some y := ⟨_, List.getElem?_eq_getElem (by rw [hxl]; decide)⟩
 obtain ⟨y5, hy5⟩ : ∃ y, xs[5]? = some y := ⟨_, List.getElem?_eq_getElem (by rw [hxl]; decide)⟩
 rw [hy0] at h0
 rw [hy1] at h1
 rw [hy2] at h2
 rw [hy3] at h3
 rw [hy4] at h4
 rw [hy5] at h5
 obtain ⟨n0, e0, _, w0⟩ := DataW.trod_int Try.underlying3 h0
 obtain ⟨n1, e1, _, w1⟩ := DataW.trod_int Try.underlying3 h1
 obtain ⟨n2, e2, _, w2⟩ := DataW.trod_int Try.underlying3 h2
 obtain ⟨n3, e3, _, w3⟩ := DataW.trod_int Try.underlying3 h3
 obtain ⟨n4, e4, _, w4⟩ := DataW.trod_int Try.underlying3 h4
 obtain ⟨n5, e5, _, w5⟩ := DataW.trod_int Try.underlying36 h5
 have b5 := bounds_u32 w5
 simp only [List.cons.injEq, and_true] at e0 e1 e2 e3 e4 e5
 subst e0 e1 e2 e3 e4 e5
 exact ⟨⟨n0, n1, n2, n3, n4, n5.toNat⟩, by simp [In.cells]; omega, inI_of w0, inI_of w1, inI_of w2, inI_of w3, inI_of w4, by simp only; omega⟩

theorem open_ins {R : Nat → Prop} {fuel : Nat} {v : Value} {d : DataW H} {ps : List MemPlace} (h : DataW.trod enc Try.prog w base spare held fuel 23 [v] = some (d, ps)) (hR : ∀ x ∈ ps, R x.block) : ∃ l : List In, RdIn w R v l := by
 obtain ⟨l, A, c, hv, hl, hr, ho, hb, _, _⟩ := open_sl (f := In.cells) (ok := In.ok) (wt := fun _ => 0) (R := R) Try.underlying23 cIns (by decide) In.len
   (fun cs D Pl n hl ht _ => by
     obtain ⟨p, e, o⟩ := open_in hl ht
     exact ⟨p, e, o, Nat.zero_le _⟩) h hR
 exact ⟨l, A, c, hv, hl, hr, ho⟩

theorem flat_bool : ∀ l : List Bool, (l.flatMap fun x => [Value.bool x]) = l.map Value.bool
 | [] => rfl
 | x :: l => by rw [List.flatMap_cons, flat_bool l]; rfl
theorem open_bos {R : Nat → Prop} {fuel : Nat} {v : Value} {d : DataW H} {ps : List MemPlace} (h : DataW.trod enc Try.prog w base spare held fuel 22 [v] = some (d, ps)) (hR : ∀ x ∈ ps, R x.block) : ∃ l : List Bool, RdBo w R v l := by
 obtain ⟨l, A, c, hv, hl, hr, _, _, _, _⟩ := open_sl (f := fun x : Bool => [Value.bool x]) (ok := fun _ => True) (wt := fun _ => 0) (R := R) Try.underlying22 cBool (by decide) (fun _ => rfl)
   (fun cs D Pl n hl ht _ => by
     obtain ⟨x, e, _⟩ := DataW.trod_bool Try.underlying4 ht
     exact ⟨x, e, trivial, Nat.zero_le _⟩) h hR
 rw [flat_bool] at hr
 exact ⟨l, A, c, hv, hl, hr⟩
set_option maxRecDepth 100000 in
theorem open_pg {R : Nat → Prop} {r : Reach} {b0 : Nat} {v : Value} {d : DataW H} {ps : List MemPlace} (hv : Value.okWide Try.prog w r b0 25 v) (h : DataW.Trod enc Try.prog w base spare held 25 v d ps) (hR : ∀ x ∈ ps, R x.block) :
   ∃ p : Pg, RdPg w R v p := by
 obtain ⟨c0, c1, y0, y1, m, rfl, rfl, rfl, f0, f1⟩ := Joins.open_agg2 Try.underlying25 (by kernel_rfl) (by kernel_rfl) hv h
 obtain ⟨wide, hw⟩ := open_bos (R := R) f0 (fun x hx => hR x (by simp; exact .inl hx))
 obtain ⟨code, hc⟩ := open_ins (R := R) f1 (fun x hx => hR x (by simp; exact .inr hx))
 exact ⟨⟨wide, code⟩, c0, c1, rfl, hw, hc⟩
end
end Go.Proofs.Ytodmkjeankbieab


namespace Go.Proofs.Ytodmkjeankbieab
open Go.RowKit Go.Sort

def shapeS (op : Int) : ByteArray := ⟨(shape op).toArray⟩

theorem sh_c {op n : Int} (h : (op == n) = true) : Ending.returned (.tuple #[.string (shapeS n), .bool (known n)]) = .returned (.tuple #[.string (shapeS op), .bool (known op)]) := by
 rw [beq_iff_eq] at h; rw [h]
theorem sh_op {op : Int} (h1 : 20 < op) (h2 : op ≤ 26) : Ending.returned (.tuple #[.string ⟨#[110, 110, 110, 45, 45]⟩, .bool true]) = .returned (.tuple #[.string (shapeS op), .bool (known op)]) := by
 unfold shapeS; rw [shape_op h1 h2, show known op = true from decide_eq_true (by omega)]
theorem sh_wide {op : Int} (h1 : 40 < op) (h2 : op ≤ 45) : Ending.returned (.tuple #[.string ⟨#[119, 119, 119, 45, 45]⟩, .bool true]) = .returned (.tuple #[.string (shapeS op), .bool (known op)]) := by
 unfold shapeS; rw [shape_wide h1 h2, show known op = true from decide_eq_true (by omega)]
theorem sh_none {op : Int} (h1 : (op == 1) = false) (h2 : (op == 2) = false) (h3 : (op == 3) = false) (h4 : (op == 4) = false) (h5 : (op == 5) = false) (h6 : (op == 6) = false) (h7 : (op == 7) = false) (h8 : (op == 8) = false)
   (h9 : (op == 9) = false) (h10 : (op == 10) = false) (h20 : 26 < op ∨ op ≤ 20) (h40 : 45 < op ∨ op ≤ 40) : Ending.returned (.tuple #[.string ⟨#[]⟩, .bool false]) = .returned (.tuple #[.string (shapeS op), .bool (known op)]) := by
 simp only [beq_eq_false_iff_ne] at *
 have e : shape op = [] := by
   unfold shape
   iterate 12 rw [if_neg (by omega)]
 unfold shapeS; rw [e, show known op = false from decide_eq_false (by omega)]

theorem Shape_any (op : Int) (w : World) :
   Calls Try.prog 81 #[.int .i64 op] w fun e w' => e = .returned (.tuple #[.string (shapeS op), .bool (known op)]) ∧ w = w' := by
 go_enter Try.func81, Try.ntmps81
 go_wp2
 all_goals go_ret2
 · exact ⟨sh_c ‹(op == 1) = true›, rfl⟩
 · exact ⟨sh_c ‹(op == 2) = true›, rfl⟩
 · exact ⟨sh_c ‹(op == 3) = true›, rfl⟩
 · exact ⟨sh_c ‹(op == 4) = true›, rfl⟩
 · exact ⟨sh_c ‹(op == 5) = true›, rfl⟩
 · exact ⟨sh_c ‹(op == 6) = true›, rfl⟩
 · exact ⟨sh_c ‹(op == 7) = true›, rfl⟩
 · exact ⟨sh_c ‹(op == 8) = true›, rfl⟩
 · exact ⟨sh_c ‹(op == 9) = true›, rfl⟩
 · exact ⟨sh_c ‹(op == 10) = true›, rfl⟩
 · exact ⟨sh_op ‹_› ‹_›, rfl⟩
 · exact ⟨sh_wide ‹_› ‹_›, rfl⟩
 all_goals exact ⟨sh_none ‹_› ‹_› ‹_› ‹_› ‹_› ‹_› ‹_› ‹_› ‹_› ‹_› (by first | exact Or.inl ‹_› | exact Or.inr ‹_›) (by first | exact Or.inl ‹_› | exact Or.inr ‹_›), rfl⟩

theorem wd_get {wide : List Bool} {n : Int} {b : Bool} (h : wide[n.toNat]? = some b) : wd wide n = b := by
 unfold wd; rw [List.getD_eq_getElem?_getD, h]; rfl

set_option maxHeartbeats 400000 in
set_option maxRecDepth 100000 in
theorem temp_any (R : Nat → Prop) (v : Value) (p : Pg) (n : Int) (l : UInt8) (w : World) (h : RdPg w R v p) :
   Calls Try.prog 111 #[v, .int .i64 n, .int .u8 (l.toNat : Int)] w fun e w' => e = .returned (.bool (tempB p.wide n l)) ∧ Fr w w' := by
 obtain ⟨vw, vc, rfl, ⟨A, c, rfl, hl, hr⟩, hc⟩ := h
 unfold maxLen at hl
 by_cases h45 : l = 45
 · subst h45
   go_enter Try.func111, Try.ntmps111
   go_wp2
   go_ret
   exact ⟨ret_b (by unfold tempB; rw [if_pos rfl]; rfl), (Kept.refl _ w).alloc _⟩
 · have e45 : ((l.toNat : Int) == 45) = false := by rw [beq_eq_false_iff_ne]; intro hc; exact h45 (UInt8.toNat_inj.1 (by simpa using Int.ofNat_inj.1 hc))
   by_cases hin : 0 ≤ n ∧ n < p.wide.length
   · obtain ⟨h0, h1⟩ := hin
     obtain ⟨b, off, rfl, _, hcell⟩ := hr.2 (by omega)
     have hx : p.wide[n.toNat]? = some p.wide[n.toNat] := List.getElem?_eq_getElem (by omega)
     have hw := Lib.hid (wd_get hx)
     have c0 := hcell n.toNat (.bool p.wide[n.toNat]) (by rw [List.getElem?_map, hx]; rfl)
     generalize p.wide[n.toNat] = x at *
     have hb := cell_lt c0
     have hfin : Hid (tempB p.wide n l = (decide (l = 120) || (x == decide (l = 119)))) := by
       show _ = _
       unfold tempB; rw [if_neg h45, decide_eq_true (⟨h0, h1⟩ : 0 ≤ n ∧ n < p.wide.length), hw.out]; rfl
     clear hx hcell hr hc h45
     by_cases h120 : l = 120
     · subst h120
       go_enter Try.func111, Try.ntmps111
       go_wp2
       go_ret
       exact ⟨ret_b (by rw [hfin.out]; rfl), (Kept.refl _ w).alloc _⟩
     · have e120 : ((l.toNat : Int) == 120) = false := by rw [beq_eq_false_iff_ne]; intro hc; exact h120 (UInt8.toNat_inj.1 (by simpa using Int.ofNat_inj.1 hc))
       have e119 : Hid (((l.toNat : Int) == 119) = decide (l = 119)) := by
         show _ = _
         by_cases h : l = 119
         · subst h; rfl
         · rw [decide_eq_false h, beq_eq_false_iff_ne]; intro hc; exact h (UInt8.toNat_inj.1 (by simpa using Int.ofNat_inj.1 hc))
       go_enter Try.func111, Try.ntmps111
       go_wp2
       go_ret
       exact ⟨ret_b (by rw [hfin.out, decide_eq_false h120, Bool.false_or, ← e119.out]), (Kept.refl _ w).alloc _⟩
   · have hfin : Hid (tempB p.wide n l = false) := by
       show _ = _
       unfold tempB; rw [if_neg h45, decide_eq_false hin]; rfl
     clear hr hc h45
     by_cases h0 : 0 ≤ n
     · have h1 : ¬ n < (p.wide.length : Int) := fun h => hin ⟨h0, h⟩
       clear hin
       go_enter Try.func111, Try.ntmps111
       go_wp2
       go_ret
       exact ⟨ret_b hfin.out.symm, (Kept.refl _ w).alloc _⟩
     · clear hin
       go_enter Try.func111, Try.ntmps111
       go_wp2
       go_ret
       exact ⟨ret_b hfin.out.symm, (Kept.refl _ w).alloc _⟩
theorem Kept.drewN {S : Nat → Prop} {a w : World} (h : Kept S a w) (n : Nat) : Kept S a (w.drewN n) := ⟨h.os, h.tape, h.output, h.size, h.block⟩
theorem shape_letters {op : Int} (h : known op = true) : ∃ l0 l1 l2 l3 l4 : UInt8, shape op = [l0, l1, l2, l3, l4] := by
 rcases known_cases h with rfl | rfl | rfl | rfl | rfl | rfl | rfl | rfl | rfl | rfl | ⟨h1, h2⟩ | ⟨h1, h2⟩
 case inr.inr.inr.inr.inr.inr.inr.inr.inr.inr.inl => exact ⟨_, _, _, _, _, shape_op h1 h2⟩
 case inr.inr.inr.inr.inr.inr.inr.inr.inr.inr.inr => exact ⟨_, _, _, _, _, shape_wide h1 h2⟩
 all_goals exact ⟨_, _, _, _, _, rfl⟩

structure InsMem (w wr : World) (vw vc : Value) (i : In) : Prop where
 bp : Blk wr w.heap.size 25 #[vw, vc]
 bi : Blk wr (w.heap.size + 1) 45 #[.int .i64 i.op, .int .i64 i.d, .int .i64 i.a, .int .i64 i.b, .int .i64 i.c, .int .u32 i.n]
 fr : Fr w wr

theorem InsMem.below {w wr w2 : World} {vw vc : Value} {i : In} (h : InsMem w wr vw vc i) (hb : Fr wr w2) : InsMem w w2 vw vc i :=
 ⟨h.bp.kept hb (fun h => h), h.bi.kept hb (fun h => h), h.fr.trans hb⟩
def restB (p : Pg) (i : In) (l3 l4 : UInt8) : Bool :=
 !(decide (i.op = 2) && (wd p.wide i.d != wd p.wide i.a)) && ((if l3 = 99 then decide (0 ≤ i.c ∧ i.c < p.code.length) else decide (i.c = 0)) && (decide (l4 = 110) || decide (i.n = 0)))
theorem insB_no {p : Pg} {i : In} (h : known i.op = false) : insB p i = false := by unfold insB; rw [h]; rfl
theorem insB_no0 {p : Pg} {i : In} {l0 l1 l2 l3 l4 : UInt8} (hls : shape i.op = [l0, l1, l2, l3, l4]) (h : tempB p.wide i.d l0 = false) : insB p i = false := by unfold insB; simp [hls, h]
theorem insB_no1 {p : Pg} {i : In} {l0 l1 l2 l3 l4 : UInt8} (hls : shape i.op = [l0, l1, l2, l3, l4]) (h : tempB p.wide i.a l1 = false) : insB p i = false := by unfold insB; simp [hls, h]
theorem insB_no2 {p : Pg} {i : In} {l0 l1 l2 l3 l4 : UInt8} (hls : shape i.op = [l0, l1, l2, l3, l4]) (h : tempB p.wide i.b l2 = false) : insB p i = false := by unfold insB; simp [hls, h]
theorem insB_rest {p : Pg} {i : In} {l0 l1 l2 l3 l4 : UInt8} (hk : known i.op = true) (hls : shape i.op = [l0, l1, l2, l3, l4]) (h0 : tempB p.wide i.d l0 = true) (h1 : tempB p.wide i.a l1 = true) (h2 : tempB p.wide i.b l2 = true) : insB p i = restB p i l3 l4 := by
 unfold insB restB; simp [hls, h0, h1, h2, hk]

def tailB (p : Pg) (c : Int) (n : Nat) (l3 l4 : UInt8) : Bool := (if l3 = 99 then decide (0 ≤ c ∧ c < p.code.length) else decide (c = 0)) && (decide (l4 = 110) || decide (n = 0))
theorem byte_eq {l : UInt8} {k : Nat} (hk : k < 256) : ((l.toNat : Int) == (k : Int)) = decide (l = UInt8.ofNat k) := by
 rw [Bool.eq_iff_iff, beq_iff_eq, decide_eq_true_iff, Int.ofNat_inj, ← UInt8.toNat_inj]
 have : (UInt8.ofNat k).toNat = k := by simp; omega
 rw [this]
theorem b99 (l : UInt8) : ((l.toNat : Int) == 99) = decide (l = 99) := byte_eq (k := 99) (by decide)
theorem b110 (l : UInt8) : ((l.toNat : Int) == 110) = decide (l = 110) := byte_eq (k := 110) (by decide)
theorem pg_wide {w : World} {R : Nat → Prop} {A : Option Addr} {c : Nat} {vc : Value} {p : Pg} (h : RdPg w R (.agg #[.slice A p.wide.length c, vc]) p) : Reads w R 1 A p.wide.length (p.wide.map Value.bool) := by
 obtain ⟨vw, vc', e, ⟨A1, c1, e1, _, hr⟩, _⟩ := h
 cases e
 cases e1
 exact hr
theorem rest_ne {p : Pg} {op d a b c : Int} {n : Nat} {l3 l4 : UInt8} (h : (op == 2) = false) : restB p ⟨op, d, a, b, c, n⟩ l3 l4 = tailB p c n l3 l4 := by
 rw [beq_eq_false_iff_ne] at h; unfold restB tailB; simp [h]
theorem rest_2 {p : Pg} {d a b c : Int} {n : Nat} {l3 l4 : UInt8} {x y : Bool} (hx : wd p.wide d = x) (hy : wd p.wide a = y) : restB p ⟨2, d, a, b, c, n⟩ l3 l4 = (!(x != y) && tailB p c n l3 l4) := by
 unfold restB tailB; simp [hx, hy]
theorem tw_c {p : Pg} {c : Int} {n : Nat} {l3 l4 : UInt8} (h3 : ((l3.toNat : Int) == 99) = true) (h0 : 0 ≤ c) (h1 : c < p.code.length) : tailB p c n l3 l4 = (((l4.toNat : Int) == 110) || ((n : Int) == 0)) := by
 rw [b99] at h3
 rw [b110]
 have h3 := of_decide_eq_true h3
 unfold tailB
 rw [if_pos h3, decide_eq_true ⟨h0, h1⟩, Bool.true_and]
 congr 1
 rw [Bool.eq_iff_iff]; simp
theorem tw_cn {p : Pg} {c : Int} {n : Nat} {l3 l4 : UInt8} (h3 : ((l3.toNat : Int) == 99) = true) (h : c < 0 ∨ (p.code.length : Int) ≤ c) : tailB p c n l3 l4 = false := by
 rw [b99] at h3
 have h3 := of_decide_eq_true h3
 unfold tailB
 rw [if_pos h3, decide_eq_false (by omega), Bool.false_and]
theorem tw_0 {p : Pg} {c : Int} {n : Nat} {l3 l4 : UInt8} (h3 : ((l3.toNat : Int) == 99) = false) (h : c = 0) : tailB p c n l3 l4 = (((l4.toNat : Int) == 110) || ((n : Int) == 0)) := by
 rw [b99] at h3
 rw [b110]
 have h3 := of_decide_eq_false h3
 unfold tailB
 rw [if_neg h3, decide_eq_true h, Bool.true_and]
 congr 1
 rw [Bool.eq_iff_iff]; simp
theorem tw_0n {p : Pg} {c : Int} {n : Nat} {l3 l4 : UInt8} (h3 : ((l3.toNat : Int) == 99) = false) (h : ¬ c = 0) : tailB p c n l3 l4 = false := by
 rw [b99] at h3
 have h3 := of_decide_eq_false h3
 unfold tailB
 rw [if_neg h3, decide_eq_false h, Bool.false_and]
theorem or_110 {l : UInt8} {n : Nat} (h : (l.toNat : Int) = 110) : (((l.toNat : Int) == 110) || ((n : Int) == 0)) = true := by simp [h]
theorem shape_2 {l0 l1 l2 l3 l4 : UInt8} (h : shape 2 = [l0, l1, l2, l3, l4]) : l0 = 120 ∧ l1 = 120 ∧ l3 = 45 ∧ l4 = 45 := by
 have e : shape 2 = [120, 120, 45, 45, 45] := rfl
 rw [e] at h
 simp at h
 obtain ⟨h0, h1, _, h3, h4⟩ := h
 exact ⟨h0.symm, h1.symm, h3.symm, h4.symm⟩
theorem temp_x {wide : List Bool} {n : Int} (h : tempB wide n 120 = true) : 0 ≤ n ∧ n < wide.length := by
 unfold tempB at h
 rw [if_neg (by decide)] at h
 simp only [Bool.and_eq_true, decide_eq_true_eq] at h
 exact h.1

def InsRel (p : Pg) (op d a b cc : Int) (n : Nat) (l0 l1 l2 : UInt8) (k : Int) : Prop :=
 (k = 0 ∨ (k = 1 ∧ tempB p.wide d l0 = true) ∨ (k = 2 ∧ tempB p.wide d l0 = true ∧ tempB p.wide a l1 = true) ∨ (k = 3 ∧ tempB p.wide d l0 = true ∧ tempB p.wide a l1 = true ∧ tempB p.wide b l2 = true))

set_option maxHeartbeats 1000000 in
set_option maxRecDepth 100000 in
theorem ins_any (R : Nat → Prop) (v : Value) (p : Pg) (i : In) (w : World) (h : RdPg w R v p) :
   Calls Try.prog 89 #[v, i.val] w fun e w' => e = .returned (.bool (insB p i)) ∧ Fr w w' := by
 have H := Lib.hid h
 obtain ⟨vw, vc, rfl, ⟨A, c, rfl, hl, hr⟩, ⟨A', c', rfl, hl', hr', ho'⟩⟩ := h
 unfold maxLen at hl hl'
 cases hk : known i.op with
 | false =>
   have hfin := Lib.hid (insB_no (p := p) hk)
   have hS := Lib.hid (fun w => Shape_any i.op w)
   rw [hk] at hS
   clear hr hr' ho' H hk
   obtain ⟨op, d, a, b, cc, n⟩ := i
   unfold In.val
   go_enter Try.func89, Try.ntmps89
   go_wp2_with (go_at_call 81; refine (hS.out _).mono ?_; rintro e w' ⟨rfl, rfl⟩)
   go_ret
   exact ⟨ret_b hfin.out.symm, ((Kept.refl _ w).alloc _).alloc _⟩
 | true =>
   obtain ⟨l0, l1, l2, l3, l4, hls⟩ := shape_letters hk
   have hS := Lib.hid (fun w => Shape_any i.op w)
   rw [hk, show shapeS i.op = ⟨#[l0, l1, l2, l3, l4]⟩ by unfold shapeS; rw [hls]] at hS
   have HK := Lib.hid hk
   have HLS := Lib.hid hls
   clear hr hr' ho' hk hls
   obtain ⟨op, d, a, b, cc, n⟩ := i
   unfold In.val
   simp only at hS HK HLS
   go_enter Try.func89, Try.ntmps89
   go_wp2_with (go_at_call 81; refine (hS.out _).mono ?_; rintro e w' ⟨rfl, rfl⟩)
   go_loopw [25] (fun i wr => ∃ k : Int, i = .int .i64 k ∧ Hid (InsRel p op d a b cc n l0 l1 l2 k) ∧ InsMem w wr (.slice A p.wide.length c) (.slice A' p.code.length c') ⟨op, d, a, b, cc, n⟩) (fun i _ => 3 - (intOf i).toNat)
   case atStart =>
     refine ⟨0, rfl, Or.inl rfl, (Blk.new w _ _).alloc _, ?_, ((Kept.refl _ w).alloc _).alloc _⟩
     have := Blk.new (w.alloc (.cells #[Value.slice A p.wide.length c, Value.slice A' p.code.length c'] 25)) 45 #[.int .i64 op, .int .i64 d, .int .i64 a, .int .i64 b, .int .i64 cc, .int .u32 n]
     simpa using this
   case round =>
     obtain ⟨k, rfl, hrel, hmem⟩ := hrel
     have HM := Lib.hid hmem
     have c0 := hmem.bp.cell 0
     have c1 := hmem.bp.cell 1
     simp only [List.getElem?_toArray, List.getElem?_cons_succ, List.getElem?_cons_zero] at c0 c1
     have hp2 := H.out.kept hmem.fr (fun _ _ h => h)
     have HT := Lib.hid (fun (n : Int) (l : UInt8) (d : Nat) (os : Array Obj) => temp_any R _ p n l (grow (redrawn wr d) os) (hp2.kept (kept_of_regrown (S := fun _ => False) (w := wr) d os) (fun _ _ h => h)))
     clear hp2 hmem
     have q0 := cell_regrown c0
     have q1 := cell_regrown c1
     rcases hrel.out with rfl | ⟨rfl, t0⟩ | ⟨rfl, t0, t1⟩ | ⟨rfl, t0, t1, t2⟩
     · clear hrel
       cases ht : tempB p.wide d l0 with
       | false =>
         have hfin := Lib.hid (insB_no0 (p := p) (i := ⟨op, d, a, b, cc, n⟩) HLS.out ht)
         have HT0 := Lib.hid (fun d' os => HT.out d l0 d' os)
         have hix : ∀ w, (Instr.index 152 (.agg #[.int .i64 d, .int .i64 a, .int .i64 b]) (.int .i64 0)).run Try.prog w = .ok (.int .i64 d) w := fun _ => by kernel_rfl
         rw [ht] at HT0
         clear ht HT 
         go_wp2
         refine wp_region_quiet_below (by kernel_rfl) (by kernel_rfl) ?_
         repeat (quiet_step (refine Calls.regrown_of ((HT0.out _ _).mono fun e w' h => ⟨h.1, h.2.below⟩)))
         refine wpQuiet_nil ?_
         intro _ hw2
         obtain ⟨pq, rfl⟩ := hw2
         go_wp2
         go_ret
         exact ⟨ret_b hfin.out.symm, HM.out.fr.trans (kept_of_regrown _ _)⟩
       | true =>
         have hnext : Hid (InsRel p op d a b cc n l0 l1 l2 1) := Or.inr (Or.inl ⟨rfl, ht⟩)
         have HT0 := Lib.hid (fun d' os => HT.out d l0 d' os)
         have hix : ∀ w, (Instr.index 152 (.agg #[.int .i64 d, .int .i64 a, .int .i64 b]) (.int .i64 0)).run Try.prog w = .ok (.int .i64 d) w := fun _ => by kernel_rfl
         rw [ht] at HT0
         clear ht HT 
         go_wp2
         refine wp_region_quiet_below (by kernel_rfl) (by kernel_rfl) ?_
         repeat (quiet_step (refine Calls.regrown_of ((HT0.out _ _).mono fun e w' h => ⟨h.1, h.2.below⟩)))
         refine wpQuiet_nil ?_
         intro _ hw2
         obtain ⟨pq, rfl⟩ := hw2
         go_wp2
         go_roundw
         case rel => exact ⟨1, rfl, hnext, HM.out.below (kept_of_regrown _ _)⟩
         case measure => simp [intOf]
     · clear hrel
       cases ht : tempB p.wide a l1 with
       | false =>
         have hfin := Lib.hid (insB_no1 (p := p) (i := ⟨op, d, a, b, cc, n⟩) HLS.out ht)
         have HT0 := Lib.hid (fun d' os => HT.out a l1 d' os)
         have hix : ∀ w, (Instr.index 152 (.agg #[.int .i64 d, .int .i64 a, .int .i64 b]) (.int .i64 1)).run Try.prog w = .ok (.int .i64 a) w := fun _ => by kernel_rfl
         rw [ht] at HT0
         clear ht HT t0
         go_wp2
         refine wp_region_quiet_below (by kernel_rfl) (by kernel_rfl) ?_
         repeat (quiet_step (refine Calls.regrown_of ((HT0.out _ _).mono fun e w' h => ⟨h.1, h.2.below⟩)))
         refine wpQuiet_nil ?_
         intro _ hw2
         obtain ⟨pq, rfl⟩ := hw2
         go_wp2
         go_ret
         exact ⟨ret_b hfin.out.symm, HM.out.fr.trans (kept_of_regrown _ _)⟩
       | true =>
         have hnext : Hid (InsRel p op d a b cc n l0 l1 l2 2) := Or.inr (Or.inr (Or.inl ⟨rfl, t0, ht⟩))
         have HT0 := Lib.hid (fun d' os => HT.out a l1 d' os)
         have hix : ∀ w, (Instr.index 152 (.agg #[.int .i64 d, .int .i64 a, .int .i64 b]) (.int .i64 1)).run Try.prog w = .ok (.int .i64 a) w := fun _ => by kernel_rfl
         rw [ht] at HT0
         clear ht HT t0
         go_wp2
         refine wp_region_quiet_below (by kernel_rfl) (by kernel_rfl) ?_
         repeat (quiet_step (refine Calls.regrown_of ((HT0.out _ _).mono fun e w' h => ⟨h.1, h.2.below⟩)))
         refine wpQuiet_nil ?_
         intro _ hw2
         obtain ⟨pq, rfl⟩ := hw2
         go_wp2
         go_roundw
         case rel => exact ⟨2, rfl, hnext, HM.out.below (kept_of_regrown _ _)⟩
         case measure => simp [intOf]
     · clear hrel
       cases ht : tempB p.wide b l2 with
       | false =>
         have hfin := Lib.hid (insB_no2 (p := p) (i := ⟨op, d, a, b, cc, n⟩) HLS.out ht)
         have HT0 := Lib.hid (fun d' os => HT.out b l2 d' os)
         have hix : ∀ w, (Instr.index 152 (.agg #[.int .i64 d, .int .i64 a, .int .i64 b]) (.int .i64 2)).run Try.prog w = .ok (.int .i64 b) w := fun _ => by kernel_rfl
         rw [ht] at HT0
         clear ht HT t0 t1
         go_wp2
         refine wp_region_quiet_below (by kernel_rfl) (by kernel_rfl) ?_
         repeat (quiet_step (refine Calls.regrown_of ((HT0.out _ _).mono fun e w' h => ⟨h.1, h.2.below⟩)))
         refine wpQuiet_nil ?_
         intro _ hw2
         obtain ⟨pq, rfl⟩ := hw2
         go_wp2
         go_ret
         exact ⟨ret_b hfin.out.symm, HM.out.fr.trans (kept_of_regrown _ _)⟩
       | true =>
         have hnext : Hid (InsRel p op d a b cc n l0 l1 l2 3) := Or.inr (Or.inr (Or.inr ⟨rfl, t0, t1, ht⟩))
         have HT0 := Lib.hid (fun d' os => HT.out b l2 d' os)
         have hix : ∀ w, (Instr.index 152 (.agg #[.int .i64 d, .int .i64 a, .int .i64 b]) (.int .i64 2)).run Try.prog w = .ok (.int .i64 b) w := fun _ => by kernel_rfl
         rw [ht] at HT0
         clear ht HT t0 t1
         go_wp2
         refine wp_region_quiet_below (by kernel_rfl) (by kernel_rfl) ?_
         repeat (quiet_step (refine Calls.regrown_of ((HT0.out _ _).mono fun e w' h => ⟨h.1, h.2.below⟩)))
         refine wpQuiet_nil ?_
         intro _ hw2
         obtain ⟨pq, rfl⟩ := hw2
         go_wp2
         go_roundw
         case rel => exact ⟨3, rfl, hnext, HM.out.below (kept_of_regrown _ _)⟩
         case measure => simp [intOf]
     · have hfin := Lib.hid (insB_rest (p := p) (i := ⟨op, d, a, b, cc, n⟩) HK.out HLS.out t0 t1 t2)
       clear hrel HT q0 q1
       have d0 := HM.out.bi.cell 0
       have d1 := HM.out.bi.cell 1
       have d2 := HM.out.bi.cell 2
       have d4 := HM.out.bi.cell 4
       have d5 := HM.out.bi.cell 5
       simp only [List.getElem?_toArray, List.getElem?_cons_succ, List.getElem?_cons_zero] at d0 d1 d2 d4 d5
       go_wp2
       by_cases h2 : op = 2
       · subst h2
         obtain ⟨rfl, rfl, rfl, rfl⟩ := shape_2 HLS.out
         obtain ⟨g0, g1⟩ := temp_x t0
         obtain ⟨g2, g3⟩ := temp_x t1
         have hr := pg_wide (H.out.kept HM.out.fr (fun _ _ h => h))
         obtain ⟨b1, off, rfl, _, hcell⟩ := hr.2 (by omega)
         have hx : p.wide[d.toNat]? = some p.wide[d.toNat] := List.getElem?_eq_getElem (by omega)
         have hy : p.wide[a.toNat]? = some p.wide[a.toNat] := List.getElem?_eq_getElem (by omega)
         have r0 := hcell d.toNat (.bool p.wide[d.toNat]) (by rw [List.getElem?_map, hx]; rfl)
         have r1 := hcell a.toNat (.bool p.wide[a.toNat]) (by rw [List.getElem?_map, hy]; rfl)
         have hw := Lib.hid (rest_2 (p := p) (d := d) (a := a) (b := b) (c := cc) (n := n) (l3 := 45) (l4 := 45) (wd_get hx) (wd_get hy))
         clear t0 t1 t2 hcell hr hx hy
         generalize p.wide[d.toNat] = x at *
         generalize p.wide[a.toNat] = y at *
         cases x <;> cases y
         case true.true | false.false =>
           go_quiet (fail)
           go_wp2
           all_goals go_ret
           all_goals refine ⟨ret_b ?_, HM.out.fr.trans ((Kept.refl _ wr).drewN nq)⟩
           all_goals rw [hfin.out, hw.out]
           all_goals show _ = tailB p cc n 45 45
           all_goals first
             | (rw [tw_0 (l3 := 45) ‹_› ‹_›]; exact (or_110 (l := 45) ‹_›).symm)
             | (rw [tw_0 (l3 := 45) ‹_› ‹_›]; rfl)
             | (rw [tw_0n (l3 := 45) ‹_› ‹_›])
             | (rw [tw_c (l3 := 45) ‹_› ‹_› ‹_›]; exact (or_110 (l := 45) ‹_›).symm)
             | (rw [tw_c (l3 := 45) ‹_› ‹_› ‹_›]; rfl)
             | (rw [tw_cn (l3 := 45) ‹_› (Or.inr ‹_›)])
             | (rw [tw_cn (l3 := 45) ‹_› (Or.inl ‹_›)])
         all_goals
           go_quiet (fail)
           go_wp2
           go_ret
           refine ⟨ret_b ?_, HM.out.fr.trans ((Kept.refl _ wr).drewN nq)⟩
           rw [hfin.out, hw.out]
           rfl
       · have e2 : (op == 2) = false := by rw [beq_eq_false_iff_ne]; exact h2
         clear h2 t0 t1 t2
         go_quiet (fail)
         go_wp2
         all_goals go_ret
         all_goals refine ⟨ret_b ?_, HM.out.fr.trans ((Kept.refl _ wr).drewN nq)⟩
         all_goals rw [hfin.out, rest_ne e2]
         · rw [tw_c (l3 := l3) ‹_› ‹_› ‹_›]; exact (or_110 (l := l4) ‹_›).symm
         · rw [tw_c (l3 := l3) ‹_› ‹_› ‹_›]; rfl
         · rw [tw_cn (l3 := l3) ‹_› (Or.inr ‹_›)]
         · rw [tw_cn (l3 := l3) ‹_› (Or.inl ‹_›)]
         · rw [tw_0 (l3 := l3) ‹_› ‹_›]; exact (or_110 (l := l4) ‹_›).symm
         · rw [tw_0 (l3 := l3) ‹_› ‹_›]; rfl
         · rw [tw_0n (l3 := l3) ‹_› ‹_›]
end Go.Proofs.Ytodmkjeankbieab


namespace Go.Proofs.Ytodmkjeankbieab
open Go.RowKit Go.Sort

theorem Reads.ins {w : World} {R : Nat → Prop} {A : Option Addr} {n k : Nat} {l : List In} {i : In} (h : Reads w R 6 A n (l.flatMap In.cells)) (hm : l[k]? = some i) :
   ∃ b off, A = some ⟨b, off, none⟩ ∧ R b ∧ w.cell? ⟨b, off + k * 6, none⟩ = some (.int .i64 i.op) ∧ w.cell? ⟨b, off + k * 6 + 1, none⟩ = some (.int .i64 i.d) ∧ w.cell? ⟨b, off + k * 6 + 2, none⟩ = some (.int .i64 i.a) ∧
     w.cell? ⟨b, off + k * 6 + 3, none⟩ = some (.int .i64 i.b) ∧ w.cell? ⟨b, off + k * 6 + 4, none⟩ = some (.int .i64 i.c) ∧ w.cell? ⟨b, off + k * 6 + 5, none⟩ = some (.int .u32 i.n) := by
 obtain ⟨e, h2⟩ := h.elem In.len (by omega)
 have hk : k < l.length := (List.getElem?_eq_some_iff.1 hm).1
 obtain ⟨b, off, hA, hR, hc⟩ := h2 (by omega)
 exact ⟨b, off, hA, hR, hc k i hm 0 _ rfl, hc k i hm 1 _ rfl, hc k i hm 2 _ rfl, hc k i hm 3 _ rfl, hc k i hm 4 _ rfl, hc k i hm 5 _ rfl⟩
theorem pg_code {w : World} {R : Nat → Prop} {A : Option Addr} {c : Nat} {vw : Value} {p : Pg} (h : RdPg w R (.agg #[vw, .slice A p.code.length c]) p) : Reads w R 6 A p.code.length (p.code.flatMap In.cells) := by
 obtain ⟨vw, vc', e, _, ⟨A1, c1, e1, _, hr, _⟩⟩ := h
 cases e
 cases e1
 exact hr
def allTo (p : Pg) (f : Pg → In → Bool) (k : Nat) : Prop := (p.code.take k).all (f p) = true
theorem allTo_0 (p : Pg) (f : Pg → In → Bool) : allTo p f 0 := rfl
theorem allTo_s {p : Pg} {f : Pg → In → Bool} {k : Nat} {i : In} (h : allTo p f k) (hi : p.code[k]? = some i) (hf : f p i = true) : allTo p f (k + 1) := by
 unfold allTo at *
 rw [List.take_add_one, List.all_append, h, hi]
 simp [hf]
theorem allTo_no {p : Pg} {f : Pg → In → Bool} {k : Nat} {i : In} (hi : p.code[k]? = some i) (hf : f p i = false) : p.code.all (f p) = false := by
 rw [List.all_eq_false]
 exact ⟨i, List.mem_of_getElem? hi, by rw [hf]; decide⟩
theorem allTo_all {p : Pg} {f : Pg → In → Bool} (h : allTo p f p.code.length) : p.code.all (f p) = true := by
 unfold allTo at h; rwa [List.take_length] at h

set_option maxHeartbeats 1000000 in
set_option maxRecDepth 100000 in
theorem May_any (R : Nat → Prop) (v : Value) (p : Pg) (w : World) (h : RdPg w R v p) :
   Calls Try.prog 52 #[v] w fun e w' => e = .returned (.bool (mayB p)) ∧ Fr w w' := by
 have H := Lib.hid h
 obtain ⟨vw, vc, rfl, ⟨A, c, rfl, hl, hr⟩, ⟨A', c', rfl, hl', hr', ho'⟩⟩ := h
 unfold maxLen at hl hl'
 clear hr ho'
 have HR := Lib.hid hr'
 clear hr'
 go_enter Try.func52, Try.ntmps52
 go_wp2
 go_loopw [8] (fun i wr => ∃ k : Nat, k ≤ p.code.length ∧ i = .int .i64 k ∧ Hid (allTo p insB k) ∧ Blk wr w.heap.size 25 #[.slice A p.wide.length c, .slice A' p.code.length c'] ∧ Fr w wr) (fun i _ => p.code.length - (intOf i).toNat)
 case atStart => exact ⟨0, by omega, rfl, allTo_0 p insB, Blk.new w _ _, (Kept.refl _ w).alloc _⟩
 case round =>
   obtain ⟨k, hk, rfl, hall, hblk, hfr⟩ := hrel
   have c0 := hblk.cell 0
   have c1 := hblk.cell 1
   simp only [List.getElem?_toArray, List.getElem?_cons_succ, List.getElem?_cons_zero] at c0 c1
   have hsz := hblk.lt
   have HB := Lib.hid hblk
   have HF := Lib.hid hfr
   clear hblk hfr
   by_cases hlt : k < p.code.length
   · have hx : p.code[k]? = some p.code[k] := List.getElem?_eq_getElem hlt
     obtain ⟨b, off, rfl, _, d0, d1, d2, d3, d4, d5⟩ := (HR.out.kept HF.out (fun _ _ h => h)).ins hx
     have HX := Lib.hid hx
     clear hx
     generalize p.code[k] = i at *
     have hb := cell_lt d0
     go_wp2_with fail
     refine (ins_any R _ p i _ (H.out.kept (HF.out.alloc _) (fun _ _ h => h))).mono ?_
     rintro e w1 ⟨rfl, f1⟩
     have f2 : Fr w w1 := (HF.out.alloc _).trans f1
     have HB1 := Lib.hid ((HB.out.alloc _).kept f1 (fun h => h))
     cases hi : insB p i with
     | true =>
       have HN := Lib.hid (allTo_s hall.out HX.out hi)
       clear hi
       go_wp2
       go_roundw
       case rel => exact ⟨k + 1, by omega, by go_num, HN, HB1.out, f2⟩
       case measure => simp [intOf]; omega
     | false =>
       have HN : Hid (mayB p = false) := by show _ = _; unfold mayB; rw [allTo_no (f := insB) HX.out hi]; rfl
       clear hi
       go_wp2
       go_ret
       exact ⟨ret_b HN.out.symm, f2⟩
   · obtain rfl : k = p.code.length := by omega
     have HN : Hid (mayB p = (decide (1 ≤ p.wide.length) && decide (p.wide.length ≤ 12) && decide (1 ≤ p.code.length) && decide (p.code.length ≤ 40))) := by
       show _ = _; unfold mayB; rw [allTo_all hall.out, Bool.true_and]
     clear hall hk
     go_wp2
     all_goals go_ret
     all_goals refine ⟨ret_b ?_, HF.out⟩
     all_goals rw [HN.out]
     all_goals (rw [Bool.eq_iff_iff]; simp; omega)
end Go.Proofs.Ytodmkjeankbieab


namespace Go.Proofs.Ytodmkjeankbieab
open Go.RowKit Go.Sort

def tgV (sg : Int) : Value := .agg #[.int .i64 sg]
def Mv.value (m : Mv) : Value := .agg #[.int .i64 m.to.k, .int .i64 m.to.n, .int .i64 m.fr.k, .int .i64 m.fr.n, .bool m.c, .int .u32 m.n]

set_option maxHeartbeats 400000 in
theorem Target_any (sg : Int) (w : World) : Calls Try.prog 75 #[tgV sg] w fun e w' => e = .returned (.bool (tgB sg)) ∧ Fr w w' := by
 have HF := Lib.hid (show Fr w (w.alloc (.cells #[.int .i64 sg] 47)) from (Kept.refl _ w).alloc _)
 unfold tgV
 go_enter Try.func75, Try.ntmps75
 go_wp2
 all_goals go_ret
 all_goals refine ⟨ret_b ?_, HF.out⟩
 all_goals unfold tgB
 all_goals rw [Bool.eq_iff_iff]
 all_goals simp only [Bool.and_eq_true, decide_eq_true_eq, beq_iff_eq, Bool.false_eq_true, false_iff]
 all_goals omega

set_option maxHeartbeats 400000 in
theorem is_any (sg sl : Int) (a : PlaceV) (w : World) (h4 : 4 ≤ sg) (h16 : sg ≤ 16) : Calls Try.prog 112 #[tgV sg, .int .i64 sl, a.val] w fun e w' => e = .returned (.bool (isB sg sl a)) ∧ Fr w w' := by
 obtain ⟨k, n⟩ := a
 have HF := Lib.hid (show Fr w ((w.alloc (.cells #[.int .i64 sg] 47)).alloc (.cells #[.int .i64 k, .int .i64 n] 57)) from ((Kept.refl _ w).alloc _).alloc _)
 have hq : sg.tdiv 2 = sg / 2 := Int.tdiv_eq_ediv_of_nonneg (by omega)
 unfold tgV PlaceV.val
 simp only
 go_enter Try.func112, Try.ntmps112
 go_wp2
 all_goals go_ret
 all_goals refine ⟨ret_b ?_, HF.out⟩
 all_goals unfold isB
 all_goals rw [Bool.eq_iff_iff]
 all_goals simp only [beq_iff_eq, beq_eq_false_iff_ne] at *
 all_goals simp only [Bool.and_eq_true, decide_eq_true_eq, beq_iff_eq, Bool.false_eq_true, false_iff]
 all_goals (split <;> (try split) <;> (try split) <;> omega)

theorem mvB_c {sg sl : Int} {to fr : PlaceV} {n : Nat} : mvB sg sl ⟨to, fr, true, n⟩ = (isB sg sl to && (decide (fr = ⟨0, 0⟩) && decide (to.k = 1))) := rfl
theorem mvB_n {sg sl : Int} {to fr : PlaceV} {n : Nat} : mvB sg sl ⟨to, fr, false, n⟩ = (isB sg sl to && (decide (n = 0) && isB sg sl fr && (decide (to.k = fr.k) != (decide (to.k = 3) || decide (fr.k = 3))))) := rfl

set_option maxHeartbeats 1000000 in
set_option maxRecDepth 100000 in
theorem move_any (sg sl : Int) (m : Mv) (w : World) (h4 : 4 ≤ sg) (h16 : sg ≤ 16) : Calls Try.prog 132 #[tgV sg, .int .i64 sl, m.value] w fun e w' => e = .returned (.bool (mvB sg sl m)) ∧ Fr w w' := by
 obtain ⟨⟨tk, tn⟩, ⟨fk, fn⟩, c, n⟩ := m
 have HF0 := Lib.hid (show Fr w ((w.alloc (.cells #[.int .i64 sg] 47)).alloc (.cells #[.int .i64 tk, .int .i64 tn, .int .i64 fk, .int .i64 fn, .bool c, .int .u32 n] 74)) from ((Kept.refl _ w).alloc _).alloc _)
 have HB0 := Lib.hid ((Blk.new w 47 #[.int .i64 sg]).alloc (.cells #[.int .i64 tk, .int .i64 tn, .int .i64 fk, .int .i64 fn, .bool c, .int .u32 n] 74))
 have HB1 : Hid (Blk ((w.alloc (.cells #[.int .i64 sg] 47)).alloc (.cells #[.int .i64 tk, .int .i64 tn, .int .i64 fk, .int .i64 fn, .bool c, .int .u32 n] 74)) (w.heap.size + 1) 74 #[.int .i64 tk, .int .i64 tn, .int .i64 fk, .int .i64 fn, .bool c, .int .u32 n]) := by
   have := Blk.new (w.alloc (.cells #[.int .i64 sg] 47)) 74 #[.int .i64 tk, .int .i64 tn, .int .i64 fk, .int .i64 fn, .bool c, .int .u32 n]
   show Blk _ _ _ _
   simpa using this
 have HTo := Lib.hid (fun w => is_any sg sl ⟨tk, tn⟩ w h4 h16)
 have HFrm := Lib.hid (fun w => is_any sg sl ⟨fk, fn⟩ w h4 h16)
 unfold tgV PlaceV.val at HTo HFrm
 simp only at HTo HFrm
 unfold tgV Mv.value
 simp only
 go_enter Try.func132, Try.ntmps132
 go_wp2_with fail
 refine (HTo.out _).mono ?_
 rintro e w1 ⟨rfl, f1⟩
 have HF1 := Lib.hid (HF0.out.trans f1)
 have HB2 := Lib.hid (HB0.out.kept f1 (fun h => h))
 have HB3 := Lib.hid (HB1.out.kept f1 (fun h => h))
 have t0 := HB2.out.cell 0
 have m0 := HB3.out.cell 0
 have m2 := HB3.out.cell 2
 have m3 := HB3.out.cell 3
 have m4 := HB3.out.cell 4
 have m5 := HB3.out.cell 5
 have z0 := HB2.out.lt
 have z1 := HB3.out.lt
 simp only [List.getElem?_toArray, List.getElem?_cons_succ, List.getElem?_cons_zero] at t0 m0 m2 m3 m4 m5
 clear f1 HF0 HB0 HB1 HTo
 cases ht : isB sg sl ⟨tk, tn⟩ with
 | false =>
   have HV : Hid (mvB sg sl ⟨⟨tk, tn⟩, ⟨fk, fn⟩, c, n⟩ = false) := by
     show _ = _; unfold mvB; simp only; rw [ht]; rfl
   clear ht
   go_wp2
   go_ret
   exact ⟨ret_b HV.out.symm, HF1.out⟩
 | true =>
   cases c with
   | true =>
     have HV : Hid (mvB sg sl ⟨⟨tk, tn⟩, ⟨fk, fn⟩, true, n⟩ = (decide ((⟨fk, fn⟩ : PlaceV) = ⟨0, 0⟩) && decide (tk = 1))) := by
       show _ = _; rw [mvB_c, ht]; rfl
     clear ht
     go_wp2
     all_goals go_ret
     all_goals refine ⟨ret_b ?_, HF1.out⟩
     all_goals rw [HV.out, Bool.eq_iff_iff]
     all_goals simp only [Bool.and_eq_true, decide_eq_true_eq, beq_iff_eq, Bool.false_eq_true, false_iff, PlaceV.mk.injEq]
     all_goals omega
   | false =>
     have HV : Hid (mvB sg sl ⟨⟨tk, tn⟩, ⟨fk, fn⟩, false, n⟩ = (decide (n = 0) && isB sg sl ⟨fk, fn⟩ && (decide (tk = fk) != (decide (tk = 3) || decide (fk = 3))))) := by
       show _ = _; rw [mvB_n, ht]; rfl
     clear ht
     by_cases hn0 : n = 0
     · subst hn0
       go_wp2
       go_quiet (fail)
       go_wp2_with fail
       refine (HFrm.out _).mono ?_
       rintro e w2 ⟨rfl, f2⟩
       have HF2 := Lib.hid ((HF1.out.drewN nq).trans f2)
       clear f2
       cases hi : isB sg sl ⟨fk, fn⟩ with
       | false =>
         rw [hi] at HV
         clear hi
         go_wp2
         go_ret
         refine ⟨ret_b ?_, HF2.out⟩
         rw [HV.out]
         rfl
       | true =>
         rw [hi] at HV
         have HV2 : Hid (mvB sg sl ⟨⟨tk, tn⟩, ⟨fk, fn⟩, false, 0⟩ = ((tk == fk) != (decide (tk = 3) || decide (fk = 3)))) := by
           show _ = _
           rw [HV.out, show decide (tk = fk) = (tk == fk) from by rw [Bool.eq_iff_iff]; simp]
           rfl
         clear hi HV
         go_wp2
         all_goals go_ret
         all_goals refine ⟨ret_b ?_, HF2.out⟩
         all_goals rw [HV2.out]
         · rename_i h3
           subst h3
           simp [bne]
         · rename_i h3
           have e3 : decide (tk = 3) = (tk == 3) := by rw [Bool.eq_iff_iff]; simp
           have e4 : decide (fk = 3) = (fk == 3) := by rw [Bool.eq_iff_iff]; simp
           rw [e3, e4]
           rfl
     · have hn1 : ((n : Int) == 0) = false := by simpa using hn0
       go_wp2
       go_quiet (fail)
       go_wp2_with fail
       go_ret
       refine ⟨ret_b ?_, HF1.out.drewN nq⟩
       rw [HV.out, decide_eq_false hn0]
       rfl
end Go.Proofs.Ytodmkjeankbieab


namespace Go.Proofs.Ytodmkjeankbieab
open Go.ChangeShapes Go.WideShapes Go.ChangeAt Go.RowKit Go.Joins

section
variable {H : Type} {enc : TypeId × Value → H} {w : World} {base : Nat} {spare : Nat → Bool} {held : Bool}
set_option maxRecDepth 100000 in
theorem open_tg {r : Reach} {b0 : Nat} {v : Value} {d : DataW H} {ps : List MemPlace} (hv : Value.okWide Try.prog w r b0 47 v) (h : DataW.Trod enc Try.prog w base spare held 47 v d ps) : ∃ sg : Int, v = tgV sg := by
 obtain ⟨cs, rfl, hsz⟩ := okWide_struct Try.underlying47 hv
 obtain ⟨c0, rfl⟩ : ∃ c0, cs = #[c0] := by
   obtain ⟨l⟩ := cs
   have hC : Try.prog.cellsOf 47 = 1 := by kernel_rfl
   match l, hsz.trans hC with
   | [c0], _ => exact ⟨c0, rfl⟩
 obtain ⟨fuel, hf⟩ := h
 obtain ⟨xs, n, _, _, hlen, hxl, hfl⟩ := DataW.trod_struct Try.underlying47 hf
 have h0 := field_at hfl 0 rfl 3 rfl 0 rfl cInt (one := [c0]) rfl
 obtain ⟨y0, hy0⟩ : ∃ y, xs[0]? = some y := ⟨_, List.getElem?_eq_getElem (by rw [hxl]; decide)⟩
 rw [hy0] at h0
 obtain ⟨n, e0, _, w0⟩ := DataW.trod_int Try.underlying3 h0
 simp only [List.cons.injEq, and_true] at e0
 subst e0
 exact ⟨n, rfl⟩
end
end Go.Proofs.Ytodmkjeankbieab

