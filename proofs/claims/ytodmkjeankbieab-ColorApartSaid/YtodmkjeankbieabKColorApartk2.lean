/- RefForm, RefForm2, RefForm3: texts of this claim, packed into one file. -/
import Derived.Test.YtodmkjeankbieabKColorApartk1
import Derived.Deep.RegionHeld3
/- The walks of the reference of chapter 2: Gives, Many, Uses, known, widths, ins, May. -/
namespace Go.Proofs.Ytodmkjeankbieab
open Go.RowKit Go.Sort

theorem refGives_any (op : Int) (w : World) :
    Calls Try.prog 44 #[.int .i64 op] w fun e w' => e = .returned (.bool (gvs op)) ∧ w = w' := by
  go_enter Try.func44, Try.ntmps44
  go_wp2
  all_goals go_ret
  all_goals refine ⟨ret_b ?_, rfl⟩
  all_goals simp only [beq_iff_eq, beq_eq_false_iff_ne] at *
  all_goals unfold gvs
  all_goals first
    | (rw [decide_eq_false (by omega)]; done)
    | (rw [decide_eq_true (by omega)]; done)

theorem many_0 {op : Int} (h : op = 1 ∨ op = 3 ∨ op = 8 ∨ op = 10) : many op = 0 := by unfold many; rw [if_pos h]
theorem many_1 {op : Int} (h : op = 2 ∨ op = 4 ∨ op = 6 ∨ op = 7 ∨ op = 9) : many op = 1 := by unfold many; rw [if_neg (by omega), if_pos h]
theorem many_2 {op : Int} (h : ¬ (op = 1 ∨ op = 3 ∨ op = 8 ∨ op = 10)) (h' : ¬ (op = 2 ∨ op = 4 ∨ op = 6 ∨ op = 7 ∨ op = 9)) : many op = 2 := by unfold many; rw [if_neg h, if_neg h']
theorem many_le (op : Int) : many op ≤ 2 := by unfold many; split <;> (try split) <;> omega
theorem refMany_any (op : Int) (w : World) :
    Calls Try.prog 66 #[.int .i64 op] w fun e w' => e = .returned (.int .i64 (many op : Int)) ∧ w = w' := by
  go_enter Try.func66, Try.ntmps66
  go_wp2
  all_goals go_ret
  all_goals refine ⟨ret_i ?_, rfl⟩
  all_goals simp only [beq_iff_eq, beq_eq_false_iff_ne] at *
  all_goals first
    | (rw [many_0 (by omega)]; rfl)
    | (rw [many_1 (by omega)]; rfl)
    | (rw [many_2 (by omega) (by omega)]; rfl)

theorem refKnown_any (op : Int) (w : World) :
    Calls Try.prog 85 #[.int .i64 op] w fun e w' => e = .returned (.bool (known op)) ∧ w = w' := by
  go_enter Try.func85, Try.ntmps85
  go_wp2
  all_goals go_ret
  all_goals refine ⟨ret_b ?_, rfl⟩
  all_goals unfold known
  all_goals (rw [Bool.eq_iff_iff]; simp; omega)

theorem refUses_any (i : In) (w : World) :
    Calls Try.prog 109 #[i.val] w fun e w' => ∃ g, e = .returned (.slice (some ⟨g, 0, none⟩) (many i.op) 2) ∧ w.heap.size ≤ g ∧ Blk w' g 3 #[.int .i64 i.a, .int .i64 i.b] ∧ Fr w w' := by
  obtain ⟨op, d, a, b, cc, n⟩ := i
  unfold In.val
  simp only
  have hm := many_le op
  have HM := Lib.hid (refMany_any op)
  go_enter Try.func109, Try.ntmps109
  go_wp2_with (go_at_call 66; refine (HM.out _).mono ?_; rintro e w' ⟨rfl, rfl⟩)
  go_ret
  refine ⟨w.heap.size + 1, rfl, by omega, ?_, ((Kept.refl _ w).alloc _).alloc _⟩
  have := Blk.new (w.alloc (.cells #[.int .i64 op, .int .i64 d, .int .i64 a, .int .i64 b, .int .i64 cc, .int .u32 n] 45)) 3 #[.int .i64 a, .int .i64 b]
  simpa using this

theorem slBool : SlTy Try.prog 22 4 1 1 := SlTy.mk' (z := .bool false) Try.underlying22 (by kernel_rfl) rfl (by decide)

def tempIn' (p : Pg) (t : Int) : Prop := 0 ≤ t ∧ t < p.wide.length
theorem step_app {P : Program} {w : World} {ops : Array Oper} {o : Oper} {a : Act} {K : Act → World → Prop} {Q : Exit → Act → World → Prop} {E : Prop} (hgd : o.guard = none) {base : Nat} {t e : TypeId} {size bytes : Nat} (hT : SlTy P t e size bytes) (s x : Operand)
    (ho : o.op = .call { callee := .builtin .append, args := #[s, x], argTypes := #[t, t] })
    (v : Value) (n : Nat) (xs : List Value) (hs : a.eval s = v) (hown : w.ownsRow base e size v n xs)
    (R : Nat → Prop) (A : Option Addr) (m c : Nat) (news : List Value) (hx : a.eval x = .slice A m c) (hr : Reads w R size A m news) (h1 : ∀ u ∈ news, u.oneCell' = true)
    (hbytes : (n + m) * bytes ≤ 140737488355328) (h63 : n + m ≤ maxLen) (hbase : base ≤ w.heap.size)
    (h : ∀ v' w', w'.ownsRow base e size v' (n + m) (xs ++ news) → Kept (fun k => v.ownBlock = some k) w w' → (v'.ownBlock = v.ownBlock ∨ v'.ownBlock = some w.heap.size) → K (a.put o.dst v') w') :
    if Region.wanted o (yielded ops a.tmps) = true then Oper.wp P o a w K Q else E := by
  have hw : Region.wanted o (yielded ops a.tmps) = true := by simp [Region.wanted, hgd]
  rw [if_pos hw]
  exact wp_app w hT s x ho v n xs hs hown R A m c news hx hr h1 hbytes h63 hbase h

/-- a row of truths that the call itself has made -/
def BoOwn (w : World) (base : Nat) (v : Value) (l : List Bool) : Prop := w.ownsRow base 4 1 v l.length (l.map Value.bool)
theorem BoOwn.nil (w : World) (base : Nat) : BoOwn w base (.slice none 0 0) [] := ⟨rfl, Or.inl ⟨rfl, rfl⟩⟩
theorem BoOwn.one {w : World} {base : Nat} {v : Value} {x : Bool} (h : w.ownsRow base 4 1 v (0 + 1) ([] ++ #[Value.bool x].toList)) : BoOwn w base v [x] := h
theorem BoOwn.snoc {w : World} {base : Nat} {v : Value} {l : List Bool} {x : Bool} (h : w.ownsRow base 4 1 v (l.length + 1) (l.map Value.bool ++ #[Value.bool x].toList)) : BoOwn w base v (l ++ [x]) := by
  unfold BoOwn; rw [List.length_append, List.map_append]; exact h

/-- the kinds so far -/
def kindTo (p : Pg) (op d a b : Int) (k : Nat) (l : List Bool) : Prop := l = (if gvs op then [wd p.wide d] else []) ++ (([a, b].take (many op)).take k).map (wd p.wide)
theorem kindTo_0 {p : Pg} {op d a b : Int} {l : List Bool} (h : l = if gvs op then [wd p.wide d] else []) : kindTo p op d a b 0 l := by unfold kindTo; simp [h]
theorem kindTo_len {p : Pg} {op d a b : Int} {k : Nat} {l : List Bool} (h : kindTo p op d a b k l) : l.length ≤ 3 := by
  rw [h]; split <;> simp <;> omega
theorem kindTo_s {p : Pg} {op d a b : Int} {k : Nat} {l : List Bool} {t : Int} {x : Bool} (h : kindTo p op d a b k l) (ht : ([a, b].take (many op))[k]? = some t) (hx : wd p.wide t = x) : kindTo p op d a b (k + 1) (l ++ [x]) := by
  unfold kindTo at *
  rw [List.take_add_one, ht, h, ← hx]
  simp [List.append_assoc]
theorem kindTo_all {p : Pg} {i : In} {l : List Bool} (h : kindTo p i.op i.d i.a i.b (many i.op) l) : kinds p i = l := by
  rw [h]; unfold kinds uses
  rw [List.take_of_length_le (l := [i.a, i.b].take (many i.op)) (by simp; omega)]

theorem InsMem.start (w : World) (vw vc : Value) (op d a b c : Int) (n : Nat) :
    InsMem w ((w.alloc (.cells #[vw, vc] 25)).alloc (.cells #[.int .i64 op, .int .i64 d, .int .i64 a, .int .i64 b, .int .i64 c, .int .u32 n] 45)) vw vc ⟨op, d, a, b, c, n⟩ := by
  refine ⟨(Blk.new w _ _).alloc _, ?_, ((Kept.refl _ w).alloc _).alloc _⟩
  have := Blk.new (w.alloc (.cells #[vw, vc] 25)) 45 #[.int .i64 op, .int .i64 d, .int .i64 a, .int .i64 b, .int .i64 c, .int .u32 n]
  simpa using this
theorem InsMem.app {w wr w2 : World} {vw vc v : Value} {i : In} {l : List Bool} (h : InsMem w wr vw vc i) (ho : BoOwn wr w.heap.size v l) (hk : Kept (fun k => v.ownBlock = some k) wr w2) : InsMem w w2 vw vc i :=
  ⟨h.bp.kept hk (own_blk_ne ho h.bp (by decide)), h.bi.kept hk (own_blk_ne ho h.bi (by decide)), h.fr.app ho hk⟩
theorem InsMem.alloc {w wr : World} {vw vc : Value} {i : In} (h : InsMem w wr vw vc i) (o : Obj) : InsMem w (wr.alloc o) vw vc i := ⟨h.bp.alloc o, h.bi.alloc o, h.fr.alloc o⟩
theorem InsMem.cp {w wr : World} {vw vc : Value} {i : In} (h : InsMem w wr vw vc i) : wr.cell? ⟨w.heap.size, 0, none⟩ = some vw ∧ wr.cell? ⟨w.heap.size, 1, none⟩ = some vc := by
  have c0 := h.bp.cell 0
  have c1 := h.bp.cell 1
  simp only [List.getElem?_toArray, List.getElem?_cons_succ, List.getElem?_cons_zero] at c0 c1
  exact ⟨c0, c1⟩
theorem InsMem.ci {w wr : World} {vw vc : Value} {op d a b c : Int} {n : Nat} (h : InsMem w wr vw vc ⟨op, d, a, b, c, n⟩) : wr.cell? ⟨w.heap.size + 1, 0, none⟩ = some (.int .i64 op) ∧ wr.cell? ⟨w.heap.size + 1, 1, none⟩ = some (.int .i64 d) ∧
    wr.cell? ⟨w.heap.size + 1, 2, none⟩ = some (.int .i64 a) ∧ wr.cell? ⟨w.heap.size + 1, 3, none⟩ = some (.int .i64 b) ∧ wr.cell? ⟨w.heap.size + 1, 4, none⟩ = some (.int .i64 c) ∧ wr.cell? ⟨w.heap.size + 1, 5, none⟩ = some (.int .u32 n) := by
  have c0 := h.bi.cell 0
  have c1 := h.bi.cell 1
  have c2 := h.bi.cell 2
  have c3 := h.bi.cell 3
  have c4 := h.bi.cell 4
  have c5 := h.bi.cell 5
  simp only [List.getElem?_toArray, List.getElem?_cons_succ, List.getElem?_cons_zero] at c0 c1 c2 c3 c4 c5
  exact ⟨c0, c1, c2, c3, c4, c5⟩
theorem kt2 {p : Pg} {d a b : Int} {L : List Bool} (h : kindTo p 2 d a b (many 2) L) : L = [wd p.wide d, wd p.wide a] := by rw [h]; rfl
theorem kt5 {p : Pg} {d a b : Int} {L : List Bool} (h : kindTo p 5 d a b (many 5) L) : L = [wd p.wide d, wd p.wide a, wd p.wide b] := by rw [h]; rfl
theorem kt6 {p : Pg} {d a b : Int} {L : List Bool} (h : kindTo p 6 d a b (many 6) L) : L = [wd p.wide d, wd p.wide a] := by rw [h]; rfl
theorem kt7 {p : Pg} {d a b : Int} {L : List Bool} (h : kindTo p 7 d a b (many 7) L) : L = [wd p.wide d, wd p.wide a] := by rw [h]; rfl
theorem BoOwn.cells {w : World} {base : Nat} {v : Value} {l : List Bool} (h : BoOwn w base v l) (h0 : 0 < l.length) : ∃ b off c, v = .slice (some ⟨b, off, none⟩) l.length c ∧ b < w.heap.size ∧ ∀ k x, l[k]? = some x → w.cell? ⟨b, off + k, none⟩ = some (.bool x) := by
  obtain ⟨A, c, hv, _, hr⟩ := own_reads h
  obtain ⟨b, off, rfl, hb, hc⟩ := hr.2 h0
  have h1 := hc 0 (.bool l[0]) (by simp)
  exact ⟨b, off, c, hv, cell_lt h1, fun k x hx => hc k (.bool x) (by rw [List.getElem?_map, hx]; rfl)⟩
theorem BoOwn.val {w : World} {base : Nat} {v : Value} {l : List Bool} (h : BoOwn w base v l) : ∃ A c, v = .slice A l.length c := by
  obtain ⟨A, c, hv, _⟩ := own_reads h
  exact ⟨A, c, hv⟩
def allW (L : List Bool) (x : Bool) (k : Nat) : Prop := (L.take k).all (fun y => y == x) = true
theorem allW_s {L : List Bool} {x y : Bool} {k : Nat} (h : allW L x k) (hy : L[k]? = some y) (hxy : y = x) : allW L x (k + 1) := by
  unfold allW at *
  rw [List.take_add_one, List.all_append, h, hy, hxy]; simp
theorem wid2 {p : Pg} {d a b c : Int} {n : Nat} {x y : Bool} (h : kinds p ⟨2, d, a, b, c, n⟩ = [x, y]) : widthsR p ⟨2, d, a, b, c, n⟩ = (x == y) := by
  unfold widthsR; rw [h]; rfl
theorem wid5 {p : Pg} {d a b c : Int} {n : Nat} {x y z : Bool} (h : kinds p ⟨5, d, a, b, c, n⟩ = [x, y, z]) : widthsR p ⟨5, d, a, b, c, n⟩ = (x && !y && !z) := by
  unfold widthsR; rw [h]; rfl
theorem wid6 {p : Pg} {d a b c : Int} {n : Nat} {x y : Bool} (h : kinds p ⟨6, d, a, b, c, n⟩ = [x, y]) : widthsR p ⟨6, d, a, b, c, n⟩ = (!x && y) := by
  unfold widthsR; rw [h]; rfl
theorem wid7 {p : Pg} {d a b c : Int} {n : Nat} {x y : Bool} (h : kinds p ⟨7, d, a, b, c, n⟩ = [x, y]) : widthsR p ⟨7, d, a, b, c, n⟩ = (!x && y) := by
  unfold widthsR; rw [h]; rfl
theorem widE {p : Pg} {i : In} {L : List Bool} (h : kinds p i = L) (h2 : (i.op == 2) = false) (h5 : (i.op == 5) = false) (h6 : (i.op == 6) = false) (h7 : (i.op == 7) = false) : widthsR p i = L.all fun y => y == decide (40 < i.op) := by
  rw [beq_eq_false_iff_ne] at h2 h5 h6 h7
  unfold widthsR; rw [if_neg h2, if_neg h5, if_neg (by omega), h]
theorem app_cell {wr w1 : World} {o : Obj} {v x : Value} {b j : Nat} (hc : wr.cell? ⟨b, j, none⟩ = some x) (hk : Kept (fun k => v.ownBlock = some k) (wr.alloc o).drew w1) (hne : v.ownBlock ≠ some b) : w1.cell? ⟨b, j, none⟩ = some x := by
  have hb := cell_lt hc
  have h1 : (wr.alloc o).cell? ⟨b, j, none⟩ = some x := (((Kept.refl (fun _ => False) wr).alloc o).cell (p := ⟨b, j, none⟩) hb (fun h => h)).trans hc
  exact (hk.cell (p := ⟨b, j, none⟩) (cell_lt h1) hne).trans h1
theorem own_ne_old {w : World} {base b : Nat} {e : TypeId} {size n : Nat} {v : Value} {xs : List Value} (h : w.ownsRow base e size v n xs) (hb : b < base) : v.ownBlock ≠ some b := fun he => by
  have := (own_lt h he).1; omega
theorem InsMem.drew {w wr : World} {vw vc : Value} {i : In} (h : InsMem w wr vw vc i) : InsMem w wr.drew vw vc i := ⟨h.bp, h.bi, h.fr.drew⟩
structure WiMem (w wr : World) (vw vc : Value) (i : In) (g : Nat) (v : Value) (l : List Bool) : Prop where
  im : InsMem w wr vw vc i
  us : Blk wr g 3 #[.int .i64 i.a, .int .i64 i.b]
  ow : BoOwn wr w.heap.size v l
theorem use_cell {w : World} {g k : Nat} {op a b t : Int} (h : Blk w g 3 #[.int .i64 a, .int .i64 b]) (ht : ([a, b].take (many op))[k]? = some t) : w.cell? ⟨g, k, none⟩ = some (.int .i64 t) := by
  rw [h.cell]
  have hk : [a, b][k]? = some t := by
    rw [List.getElem?_take] at ht
    split at ht
    · exact ht
    · cases ht
  match k, hk with
  | 0, hk => simp at hk; subst hk; rfl
  | 1, hk => simp at hk; subst hk; rfl
theorem use_in {p : Pg} {k : Nat} {op a b t : Int} (ha : 0 < many op → tempIn' p a) (hb : 1 < many op → tempIn' p b) (ht : ([a, b].take (many op))[k]? = some t) : tempIn' p t := by
  rw [List.getElem?_take] at ht
  split at ht
  · match k, ht with
    | 0, ht => simp at ht; subst ht; exact ha (by omega)
    | 1, ht => simp at ht; subst ht; exact hb (by omega)
  · cases ht
theorem use_some {k : Nat} {op a b : Int} (hk : k < many op) : ∃ t, ([a, b].take (many op))[k]? = some t := by
  have := many_le op
  exact ⟨_, List.getElem?_eq_getElem (by simp; omega)⟩
theorem pg_at {w : World} {R : Nat → Prop} {A : Option Addr} {c : Nat} {vc : Value} {p : Pg} (h : RdPg w R (.agg #[.slice A p.wide.length c, vc]) p) {t : Int} (ht : tempIn' p t) :
    ∃ b off x, A = some ⟨b, off, none⟩ ∧ w.cell? ⟨b, off + t.toNat, none⟩ = some (.bool x) ∧ wd p.wide t = x ∧ 0 ≤ t ∧ t < p.wide.length := by
  obtain ⟨t0, t1⟩ := ht
  obtain ⟨b, off, rfl, _, hcell⟩ := (pg_wide h).2 (by omega)
  have hx : p.wide[t.toNat]? = some p.wide[t.toNat] := List.getElem?_eq_getElem (by omega)
  exact ⟨b, off, _, rfl, hcell _ _ (by rw [List.getElem?_map, hx]; rfl), wd_get hx, t0, t1⟩
theorem InsMem.lt {w wr : World} {vw vc : Value} {i : In} (h : InsMem w wr vw vc i) : w.heap.size + 1 < wr.heap.size := h.bi.lt

set_option maxHeartbeats 1000000 in
set_option maxRecDepth 100000 in
theorem refWidths_any (R : Nat → Prop) (v : Value) (p : Pg) (i : In) (w : World) (h : RdPg w R v p) (hk : known i.op = true) (hd : gvs i.op = true → tempIn' p i.d) (ha : 0 < many i.op → tempIn' p i.a) (hb : 1 < many i.op → tempIn' p i.b) :
    Calls Try.prog 86 #[v, i.val] w fun e w' => e = .returned (.bool (widthsR p i)) ∧ Fr w w' := by
  have H := Lib.hid h
  obtain ⟨vw, vc, rfl, ⟨A, c, rfl, hl, hr⟩, ⟨A', c', rfl, hl', hr', ho'⟩⟩ := h
  unfold maxLen at hl hl'
  have HK := Lib.hid hk
  have HD := Lib.hid hd
  have HA := Lib.hid ha
  have HB := Lib.hid hb
  clear hr hr' ho' hk hd ha hb
  obtain ⟨op, d, a, b, cc, n⟩ := i
  unfold In.val
  simp only at HK HD HA HB
  have HG := Lib.hid (refGives_any op)
  cases hg : gvs op
  case' true =>
    obtain ⟨t0, t1⟩ := HD.out hg
    obtain ⟨b1, off, rfl, _, hcell⟩ := (pg_wide H.out).2 (by omega)
    have hx : p.wide[d.toNat]? = some p.wide[d.toNat] := List.getElem?_eq_getElem (by omega)
    have r0 := hcell d.toNat (.bool p.wide[d.toNat]) (by rw [List.getElem?_map, hx]; rfl)
    have hwd := Lib.hid (wd_get hx)
    clear hcell hx
    generalize p.wide[d.toNat] = x at *
    have hb1 := cell_lt r0
    rw [hg] at HG
    have HK0 := Lib.hid (kindTo_0 (p := p) (op := op) (d := d) (a := a) (b := b) (l := [x]) (by rw [hg, ← hwd.out]; rfl))
    clear hg
    go_enter Try.func86, Try.ntmps86
    go_wp2_with (first
      | (go_at_call 44; refine (HG.out _).mono ?_; rintro e w' ⟨rfl, rfl⟩)
      | (at_builtin
         refine wpList_app (base := w.heap.size) _ rfl slBool (.tmp 13) (.tmp 20) rfl (.slice none 0 0) 0 [] rfl ⟨rfl, Or.inl ⟨rfl, rfl⟩⟩ (fun _ => True) _ 1 1 _ rfl (Reads.lit' (by simp) trivial rfl) ?_ ?_ ?_ ?_ ?_
         · simp [Value.oneCell']
         · omega
         · unfold maxLen; omega
         · simp; omega
         intro v0 w1 hown1 hk1 hat1
         have hB0 := Lib.hid (BoOwn.one hown1)
         have hI := Lib.hid (InsMem.app (((InsMem.start w _ _ op d a b cc n)).alloc _) (BoOwn.nil _ _) hk1)
         obtain ⟨d0, d1, d2, d3, d4, d5⟩ := hI.out.ci
         clear hown1 hat1 hk1))
    refine (refUses_any ⟨op, d, a, b, cc, n⟩ _).mono ?_
    rintro e w2 ⟨g, rfl, hge, hu, f2⟩
    have HI := Lib.hid (hI.out.below f2)
    have HU := Lib.hid hu
    have HO := Lib.hid (own_kept hB0.out f2 (fun _ _ h => h))
    have HG2 := Lib.hid (show w.heap.size + 2 ≤ g from by have := hI.out.lt; omega)
    clear hu hge d0 d1 d2 d3 d4 d5 hI hB0 f2 r0 hwd HG t0 t1 hb1
    generalize some (⟨b1, off, none⟩ : Addr) = A at *
    go_wp2
  case' false =>
    rw [hg] at HG
    have HK0 := Lib.hid (kindTo_0 (p := p) (op := op) (d := d) (a := a) (b := b) (l := []) (by rw [hg]; rfl))
    clear hg
    go_enter Try.func86, Try.ntmps86
    go_wp2_with (go_at_call 44; refine (HG.out _).mono ?_; rintro e w' ⟨rfl, rfl⟩)
    have hI := Lib.hid (InsMem.start w (.slice A p.wide.length c) (.slice A' p.code.length c') op d a b cc n)
    refine (refUses_any ⟨op, d, a, b, cc, n⟩ _).mono ?_
    rintro e w2 ⟨g, rfl, hge, hu, f2⟩
    have HI := Lib.hid (hI.out.below f2)
    have HU := Lib.hid hu
    have HO := Lib.hid (BoOwn.nil w2 w.heap.size)
    have HG2 := Lib.hid (show w.heap.size + 2 ≤ g from by have := hI.out.lt; omega)
    clear hu hge hI f2 HG
    go_wp2
  all_goals
    go_loopw [5, 7] (fun v i wr => ∃ (k : Nat) (L : List Bool), k ≤ many op ∧ i = .int .i64 k ∧ Hid (kindTo p op d a b k L) ∧ Hid (WiMem w wr (.slice A p.wide.length c) (.slice A' p.code.length c') ⟨op, d, a, b, cc, n⟩ g v L)) (fun _ i _ => many op - (intOf i).toNat)
    case atStart => exact ⟨0, _, Nat.zero_le _, rfl, HK0, ⟨HI.out, HU.out, HO.out⟩⟩
    case round =>
      obtain ⟨k, L, hk, rfl, hkt, hmem⟩ := hrel
      obtain ⟨c0, c1⟩ := hmem.out.im.cp
      obtain ⟨d0, d1, d2, d3, d4, d5⟩ := hmem.out.im.ci
      clear HI HU HO HK0
      have hm2 := many_le op
      have hL := kindTo_len hkt.out
      by_cases hlt : k < many op
      · obtain ⟨t, ht⟩ := use_some (a := a) (b := b) hlt
        have u0 := use_cell hmem.out.us ht
        obtain ⟨b1, off, x, rfl, r0', hwd, t0, t1⟩ := pg_at H.out (use_in (p := p) HA.out HB.out ht)
        have HN := Lib.hid (kindTo_s hkt.out ht hwd)
        have hb0 := cell_lt r0'
        have r0 := (hmem.out.im.fr.cell hb0).trans r0'
        have hb1 := cell_lt r0
        clear r0'
        have hgl := hmem.out.us.lt
        clear ht hwd
        go_wp2
        have HM := Lib.hid hmem.out.im
        have HU := Lib.hid hmem.out.us
        have HO := Lib.hid hmem.out.ow
        have hk0 : (0 : Int) ≤ (k : Int) := Int.natCast_nonneg _
        have hk1 : (k : Int) < (many op : Int) := by omega
        have hgt : w.heap.size + 1 < wr.heap.size := hmem.out.im.lt
        clear hmem d0 d1 d2 d3 d4 d5 c1
        go_region_held3 (fun w' => w'.cell? ⟨w.heap.size, 0, none⟩ = some (.slice (some ⟨b1, off, none⟩) p.wide.length c) ∧ w'.cell? ⟨g, k, none⟩ = some (.int .i64 t) ∧ w'.cell? ⟨b1, off + t.toNat, none⟩ = some (.bool x))
          (first
            | go_keep
            | (go_split_ands
               refine ⟨?_, ?_, ?_⟩
               · exact app_cell c0 hk1 (own_blk_ne HO.out HM.out.bp (by decide))
               · exact app_cell u0 hk1 (own_blk_ne HO.out HU.out (by decide))
               · exact app_cell r0 hk1 (own_ne_old HO.out hb0)))
          ((refine step_app (base := w.heap.size) (by rfl) slBool (.tmp 30) (.tmp 39) (by rfl) u5 L.length (L.map Value.bool) (by rfl) ((HO.out.alloc _).drew) (fun _ => True) _ 1 1 _ (by rfl) (Reads.lit' (by simp) trivial rfl) (by simp [Value.oneCell']) (by omega) (by unfold maxLen; omega) (by simp; omega) ?_; intro v1 w1 hown1 hk1 hat1))
        have HM1 := Lib.hid (InsMem.app ((HM.out.alloc (.cells #[Value.bool x] 4)).drew) ((HO.out.alloc _).drew) hk1)
        have HU1 := Lib.hid (Blk.kept ((HU.out.alloc _).drew) hk1 (own_blk_ne HO.out HU.out (by decide)))
        have HO1 := Lib.hid (BoOwn.snoc hown1)
        clear c0 r0 u0 hown1 hk1 hat1 HM HU HO
        go_wp2
        go_roundw
        case rel => exact ⟨k + 1, L ++ [x], by omega, by go_num, HN, ⟨HM1.out, HU1.out, HO1.out⟩⟩
        case measure => simp [intOf]; omega
      · obtain rfl : k = many op := by omega
        have hkd := Lib.hid (kindTo_all (i := ⟨op, d, a, b, cc, n⟩) hkt.out)
        have HF := Lib.hid hmem.out.im.fr
        have HO := Lib.hid hmem.out.ow
        clear hmem hk hlt
        by_cases e2 : op = 2
        · subst e2
          obtain rfl := kt2 hkt.out
          obtain ⟨bb, ob, cb, rfl, hbl, hc⟩ := HO.out.cells (by simp)
          have l0 := hc 0 _ rfl
          have l1 := hc 1 _ rfl
          have hw := Lib.hid (wid2 hkd.out)
          clear hc hkd HO hkt c0 c1 d1 d2 d3 d4 d5 hL hm2
          generalize wd p.wide d = x at *
          generalize wd p.wide a = y at *
          simp only [List.length_cons, List.length_nil, Nat.add_zero, Nat.zero_add, Nat.reduceAdd] at *
          go_wp2
          go_quiet (fail)
          go_wp2
          go_ret
          exact ⟨ret_b hw.out.symm, HF.out.drewN _⟩
        · have e2 : (op == 2) = false := by rw [beq_eq_false_iff_ne]; exact e2
          by_cases e5 : op = 5
          · subst e5
            obtain rfl := kt5 hkt.out
            obtain ⟨bb, ob, cb, rfl, hbl, hc⟩ := HO.out.cells (by simp)
            have l0 := hc 0 _ rfl
            have l1 := hc 1 _ rfl
            have l2 := hc 2 _ rfl
            have hw := Lib.hid (wid5 hkd.out)
            clear hc hkd HO hkt c0 c1 d1 d2 d3 d4 d5 hL hm2
            generalize wd p.wide d = x at *
            generalize wd p.wide a = y at *
            generalize wd p.wide b = z at *
            simp only [List.length_cons, List.length_nil, Nat.add_zero, Nat.zero_add, Nat.reduceAdd] at *
            cases x <;> cases y <;> cases z
            all_goals
              go_wp2
              go_ret
              exact ⟨ret_b (by rw [hw.out]; rfl), HF.out⟩
          · have e5 : (op == 5) = false := by rw [beq_eq_false_iff_ne]; exact e5
            by_cases e6 : op = 6
            · subst e6
              obtain rfl := kt6 hkt.out
              obtain ⟨bb, ob, cb, rfl, hbl, hc⟩ := HO.out.cells (by simp)
              have l0 := hc 0 _ rfl
              have l1 := hc 1 _ rfl
              have hw := Lib.hid (wid6 hkd.out)
              clear hc hkd HO hkt c0 c1 d1 d2 d3 d4 d5 hL hm2
              generalize wd p.wide d = x at *
              generalize wd p.wide a = y at *
              simp only [List.length_cons, List.length_nil, Nat.add_zero, Nat.zero_add, Nat.reduceAdd] at *
              cases x <;> cases y
              all_goals
                go_wp2
                go_ret
                exact ⟨ret_b (by rw [hw.out]; rfl), HF.out⟩
            have e6 : (op == 6) = false := by rw [beq_eq_false_iff_ne]; exact e6
            by_cases e7 : op = 7
            · subst e7
              obtain rfl := kt7 hkt.out
              obtain ⟨bb, ob, cb, rfl, hbl, hc⟩ := HO.out.cells (by simp)
              have l0 := hc 0 _ rfl
              have l1 := hc 1 _ rfl
              have hw := Lib.hid (wid7 hkd.out)
              clear hc hkd HO hkt c0 c1 d1 d2 d3 d4 d5 hL hm2
              generalize wd p.wide d = x at *
              generalize wd p.wide a = y at *
              simp only [List.length_cons, List.length_nil, Nat.add_zero, Nat.zero_add, Nat.reduceAdd] at *
              cases x <;> cases y
              all_goals
                go_wp2
                go_ret
                exact ⟨ret_b (by rw [hw.out]; rfl), HF.out⟩
            have e7 : (op == 7) = false := by rw [beq_eq_false_iff_ne]; exact e7
            have hw := Lib.hid (widE hkd.out e2 e5 e6 e7)
            obtain ⟨Av, cv, hv⟩ := HO.out.val
            subst hv
            have HC := Lib.hid (fun h0 => HO.out.cells h0)
            clear hkd HO hkt c0 c1 d1 d2 d3 d4 d5 hm2
            generalize hwx : decide (40 < op) = wx at *
            have HWX := Lib.hid hwx
            have hd40 : decide (40 < op) = wx := hwx
            clear hwx
            go_wp2
            go_loop [9] (fun i => ∃ k : Nat, k ≤ L.length ∧ i = .int .i64 k ∧ Hid (allW L wx k)) (fun i => L.length - (intOf i).toNat)
            case atStart => exact ⟨0, by omega, rfl, by show allW L wx 0; unfold allW; rfl⟩
            case round =>
              obtain ⟨k, hk, rfl, hall⟩ := hrel
              by_cases hlt : k < L.length
              · obtain ⟨bb, ob, cc2, hv, hb, hcell⟩ := HC.out (by omega)
                simp only [Value.slice.injEq] at hv
                obtain ⟨rfl, _, _⟩ := hv
                have hx : L[k]? = some L[k] := List.getElem?_eq_getElem hlt
                have r0 := hcell k _ hx
                clear hcell
                by_cases hxw : L[k] = wx
                · have HN := Lib.hid (allW_s hall.out hx hxw)
                  rw [hxw] at r0
                  have hn : (wx != wx) = false := by simp
                  clear hxw hx
                  go_wp2
                  go_round
                  case rel => exact ⟨k + 1, by omega, by go_num, HN⟩
                  case measure => simp [intOf]; omega
                · have HN : Hid (widthsR p ⟨op, d, a, b, cc, n⟩ = false) := by
                    show _ = false
                    rw [hw.out, List.all_eq_false]
                    exact ⟨_, List.getElem_mem hlt, by simpa using hxw⟩
                  generalize L[k] = x at *
                  clear hx hall
                  cases x <;> cases wx
                  case false.false | true.true => exact absurd rfl hxw
                  all_goals
                    go_wp2
                    go_ret
                    exact ⟨ret_b HN.out.symm, HF.out⟩
              · obtain rfl : k = L.length := by omega
                have HN : Hid (widthsR p ⟨op, d, a, b, cc, n⟩ = true) := by
                  show _ = true
                  rw [hw.out]
                  have := hall.out
                  unfold allW at this
                  rwa [List.take_length] at this
                go_wp2
                go_ret
                exact ⟨ret_b HN.out.symm, HF.out⟩
end Go.Proofs.Ytodmkjeankbieab

/- The walks of the reference of chapter 2: ins, May. -/
namespace Go.Proofs.Ytodmkjeankbieab
open Go.RowKit Go.Sort

theorem insR_k0 {p : Pg} {i : In} (h : known i.op = false) : insR p i = false := by unfold insR; simp [h]
theorem insR_n0 {p : Pg} {i : In} (h : i.op ≠ 1) (hn : i.n ≠ 0) : insR p i = false := by unfold insR; simp [h, hn]
theorem insR_f0 {p : Pg} {i : In} (h : fieldR p.wide (gvs i.op) i.d = false) : insR p i = false := by unfold insR; simp [h]
theorem insR_f1 {p : Pg} {i : In} (h : fieldR p.wide (decide (0 < many i.op)) i.a = false) : insR p i = false := by unfold insR; simp [h]
theorem insR_f2 {p : Pg} {i : In} (h : fieldR p.wide (decide (1 < many i.op)) i.b = false) : insR p i = false := by unfold insR; simp [h]
theorem insR_rest {p : Pg} {i : In} (hk : known i.op = true) (hn : i.op = 1 ∨ i.n = 0) (h0 : fieldR p.wide (gvs i.op) i.d = true) (h1 : fieldR p.wide (decide (0 < many i.op)) i.a = true) (h2 : fieldR p.wide (decide (1 < many i.op)) i.b = true) :
    insR p i = ((if i.op = 8 ∨ i.op = 9 then inB i.c p.code.length else decide (i.c = 0)) && widthsR p i) := by
  unfold insR
  have e : (decide (i.op = 1) || decide (i.n = 0)) = true := by simpa using hn
  rw [hk, e, h0, h1, h2]; simp

structure RfMem (w wr : World) (vw vc : Value) (i : In) (g m0 m1 : Bool) : Prop where
  im : InsMem w wr vw vc i
  f : Blk wr (w.heap.size + 2) 3 #[.int .i64 i.d, .int .i64 i.a, .int .i64 i.b]
  t : Blk wr (w.heap.size + 3) 4 #[.bool g, .bool m0, .bool m1]
theorem RfMem.start (w : World) (vw vc : Value) (op d a b c : Int) (n : Nat) (g m0 m1 : Bool) :
    RfMem w (((((w.alloc (.cells #[vw, vc] 25)).alloc (.cells #[.int .i64 op, .int .i64 d, .int .i64 a, .int .i64 b, .int .i64 c, .int .u32 n] 45)).alloc (.cells #[.int .i64 d, .int .i64 a, .int .i64 b] 3)).alloc
      (.cells #[.bool g, .bool m0, .bool m1] 4)).drew) vw vc ⟨op, d, a, b, c, n⟩ g m0 m1 := by
  have h := InsMem.start w vw vc op d a b c n
  generalize hW : ((w.alloc (.cells #[vw, vc] 25)).alloc (.cells #[.int .i64 op, .int .i64 d, .int .i64 a, .int .i64 b, .int .i64 c, .int .u32 n] 45)) = W at h
  have hs : W.heap.size = w.heap.size + 2 := by rw [← hW]; simp
  refine ⟨((h.alloc _).alloc _).drew, ?_, ?_⟩
  · have := ((Blk.new W 3 #[.int .i64 d, .int .i64 a, .int .i64 b]).alloc (.cells #[.bool g, .bool m0, .bool m1] 4)).drew
    rwa [hs] at this
  · have := (Blk.new (W.alloc (.cells #[.int .i64 d, .int .i64 a, .int .i64 b] 3)) 4 #[.bool g, .bool m0, .bool m1]).drew
    simp only [World.size_alloc, hs] at this
    exact this

/-- what the loop over the fields holds -/
def RfRel (p : Pg) (d a b : Int) (g m0 m1 : Bool) (k : Int) : Prop :=
  k = 0 ∨ (k = 1 ∧ fieldR p.wide g d = true) ∨ (k = 2 ∧ fieldR p.wide g d = true ∧ fieldR p.wide m0 a = true) ∨ (k = 3 ∧ fieldR p.wide g d = true ∧ fieldR p.wide m0 a = true ∧ fieldR p.wide m1 b = true)
theorem field_cases (wide : List Bool) (g : Bool) (n : Int) : (g = true ∧ 0 ≤ n ∧ n < wide.length ∧ fieldR wide g n = true) ∨ (g = true ∧ n < 0 ∧ fieldR wide g n = false) ∨ (g = true ∧ 0 ≤ n ∧ (wide.length : Int) ≤ n ∧ fieldR wide g n = false) ∨
    (g = false ∧ n = 0 ∧ fieldR wide g n = true) ∨ (g = false ∧ (n != 0) = true ∧ fieldR wide g n = false) := by
  unfold fieldR inB
  cases g with
  | true =>
    by_cases h0 : 0 ≤ n
    · by_cases h1 : n < wide.length
      · exact Or.inl ⟨rfl, h0, h1, by simp [h0, h1]⟩
      · exact Or.inr (Or.inr (Or.inl ⟨rfl, h0, by omega, by simp [h1]⟩))
    · exact Or.inr (Or.inl ⟨rfl, by omega, by simp [h0]⟩)
  | false =>
    by_cases h : n = 0
    · exact Or.inr (Or.inr (Or.inr (Or.inl ⟨rfl, h, by simp [h]⟩)))
    · exact Or.inr (Or.inr (Or.inr (Or.inr ⟨rfl, by simpa using h, by simp [h]⟩)))
theorem field_in {wide : List Bool} {g : Bool} {n : Int} (h : fieldR wide g n = true) (hg : g = true) : 0 ≤ n ∧ n < wide.length := by
  unfold fieldR inB at h; rw [if_pos hg] at h; exact of_decide_eq_true h
theorem jump_cases (op : Int) : (op == 8) = true ∨ ((op == 8) = false ∧ (op == 9) = true) ∨ ((op == 8) = false ∧ (op == 9) = false) := by
  cases h8 : (op == 8) <;> cases h9 : (op == 9) <;> simp
theorem rest_jump {p : Pg} {op d a b c : Int} {n : Nat} {W : Bool} (h : insR p ⟨op, d, a, b, c, n⟩ = ((if op = 8 ∨ op = 9 then inB c p.code.length else decide (c = 0)) && W)) (hj : op = 8 ∨ op = 9) :
    (0 ≤ c ∧ c < p.code.length → insR p ⟨op, d, a, b, c, n⟩ = W) ∧ (c < 0 ∨ (p.code.length : Int) ≤ c → insR p ⟨op, d, a, b, c, n⟩ = false) := by
  rw [h, if_pos hj]
  unfold inB
  exact ⟨fun hc => by rw [decide_eq_true hc]; rfl, fun hc => by rw [decide_eq_false (by omega)]; rfl⟩
theorem rest_nojump {p : Pg} {op d a b c : Int} {n : Nat} {W : Bool} (h : insR p ⟨op, d, a, b, c, n⟩ = ((if op = 8 ∨ op = 9 then inB c p.code.length else decide (c = 0)) && W)) (h8 : (op == 8) = false) (h9 : (op == 9) = false) :
    (c = 0 → insR p ⟨op, d, a, b, c, n⟩ = W) ∧ (c ≠ 0 → insR p ⟨op, d, a, b, c, n⟩ = false) := by
  rw [beq_eq_false_iff_ne] at h8 h9
  rw [h, if_neg (by omega)]
  exact ⟨fun hc => by rw [decide_eq_true hc]; rfl, fun hc => by rw [decide_eq_false hc]; rfl⟩
theorem RfMem.cf {w wr : World} {vw vc : Value} {op d a b c : Int} {n : Nat} {g m0 m1 : Bool} (h : RfMem w wr vw vc ⟨op, d, a, b, c, n⟩ g m0 m1) : wr.cell? ⟨w.heap.size + 2, 0, none⟩ = some (.int .i64 d) ∧ wr.cell? ⟨w.heap.size + 2, 1, none⟩ = some (.int .i64 a) ∧
    wr.cell? ⟨w.heap.size + 2, 2, none⟩ = some (.int .i64 b) ∧ wr.cell? ⟨w.heap.size + 3, 0, none⟩ = some (.bool g) ∧ wr.cell? ⟨w.heap.size + 3, 1, none⟩ = some (.bool m0) ∧ wr.cell? ⟨w.heap.size + 3, 2, none⟩ = some (.bool m1) := by
  have c0 := h.f.cell 0
  have c1 := h.f.cell 1
  have c2 := h.f.cell 2
  have c3 := h.t.cell 0
  have c4 := h.t.cell 1
  have c5 := h.t.cell 2
  simp only [List.getElem?_toArray, List.getElem?_cons_succ, List.getElem?_cons_zero] at c0 c1 c2 c3 c4 c5
  exact ⟨c0, c1, c2, c3, c4, c5⟩

set_option maxHeartbeats 4000000 in
set_option maxRecDepth 100000 in
theorem refIns_any (R : Nat → Prop) (v : Value) (p : Pg) (i : In) (w : World) (h : RdPg w R v p) :
    Calls Try.prog 49 #[v, i.val] w fun e w' => e = .returned (.bool (insR p i)) ∧ Fr w w' := by
  have H := Lib.hid h
  obtain ⟨vw, vc, rfl, ⟨A, c, rfl, hl, hr⟩, ⟨A', c', rfl, hl', hr', ho'⟩⟩ := h
  unfold maxLen at hl hl'
  clear hr hr' ho'
  obtain ⟨op, d, a, b, cc, n⟩ := i
  unfold In.val
  simp only
  have HKn := Lib.hid (refKnown_any op)
  cases hk : known op with
  | false =>
    have hfin := Lib.hid (insR_k0 (p := p) (i := ⟨op, d, a, b, cc, n⟩) hk)
    rw [hk] at HKn
    clear hk
    go_enter Try.func49, Try.ntmps49
    go_wp2_with (go_at_call 85; refine (HKn.out _).mono ?_; rintro e w' ⟨rfl, rfl⟩)
    go_ret
    exact ⟨ret_b hfin.out.symm, ((Kept.refl _ w).alloc _).alloc _⟩
  | true =>
    by_cases hn : op ≠ 1 ∧ n ≠ 0
    · have hfin := Lib.hid (insR_n0 (p := p) (i := ⟨op, d, a, b, cc, n⟩) hn.1 hn.2)
      have e1 : (op != 1) = true := by simpa using hn.1
      have e2 : ((n : Int) != 0) = true := by simpa using hn.2
      rw [hk] at HKn
      clear hk hn
      go_enter Try.func49, Try.ntmps49
      go_wp2_with (go_at_call 85; refine (HKn.out _).mono ?_; rintro e w' ⟨rfl, rfl⟩)
      go_ret
      exact ⟨ret_b hfin.out.symm, ((Kept.refl _ w).alloc _).alloc _⟩
    · have HK := Lib.hid hk
      have HN := Lib.hid (show op = 1 ∨ n = 0 by omega)
      have hen : op = 1 ∨ (op != 1) = true ∧ n = 0 := by
        by_cases h : op = 1
        · exact Or.inl h
        · exact Or.inr ⟨by simpa using h, by omega⟩
      rw [hk] at HKn
      clear hk hn
      have HG := Lib.hid (refGives_any op)
      have HM := Lib.hid (refMany_any op)
      have hen1 : (op != 1) = false ∨ ((op != 1) = true ∧ n = 0) := by
        rcases hen with h | h
        · exact Or.inl (by simpa using h)
        · exact Or.inr h
      clear hen
      go_enter Try.func49, Try.ntmps49
      rcases hen1 with e1 | ⟨e1, hn0⟩
      case' inr => have hn1 : ((n : Int) != 0) = false := by simpa using hn0
      case' inr => clear hn0
      all_goals
        go_wp2_with (go_at_call 85; refine (HKn.out _).mono ?_; rintro e w' ⟨rfl, rfl⟩)
      all_goals
        go_region_held3 (fun w' => w'.cell? ⟨w.heap.size + 1, 0, none⟩ = some (.int .i64 op))
          (first | go_keep)
          (first
            | (go_at_call 44; refine (HG.out _).mono ?_; rintro e w' ⟨rfl, rfl⟩)
            | (go_at_call 66; refine (HM.out _).mono ?_; rintro e w' ⟨rfl, rfl⟩))
      all_goals
        have em1 : decide ((1 : Int) < (many op : Int)) = decide (1 < many op) := by rw [decide_eq_decide]; omega
        rw [em1]
        have HS := Lib.hid (RfMem.start w (.slice A p.wide.length c) (.slice A' p.code.length c') op d a b cc n (gvs op) (decide (0 < many op)) (decide (1 < many op)))
        clear em1
        generalize hg : gvs op = g at *
        generalize hm0 : decide (0 < many op) = m0 at *
        generalize hm1 : decide (1 < many op) = m1 at *
        have Hg := Lib.hid hg
        have Hm0 := Lib.hid hm0
        have Hm1 := Lib.hid hm1
        clear hg hm0 hm1 HG HM HKn
        go_wp2
        go_loopw [8] (fun i wr => ∃ k : Int, i = .int .i64 k ∧ Hid (RfRel p d a b g m0 m1 k) ∧ Hid (RfMem w wr (.slice A p.wide.length c) (.slice A' p.code.length c') ⟨op, d, a, b, cc, n⟩ g m0 m1)) (fun i _ => 3 - (intOf i).toNat)
        case atStart => exact ⟨0, rfl, Or.inl rfl, HS.out⟩
        case round =>
          obtain ⟨k, rfl, hrel, hmem⟩ := hrel
          clear HS
          obtain ⟨f0, f1, f2, t0, t1, t2⟩ := hmem.out.cf
          have z0 := hmem.out.im.lt
          have z1 := hmem.out.t.lt
          have HF := Lib.hid hmem.out.im.fr
          rcases hrel.out with rfl | ⟨rfl, r0⟩ | ⟨rfl, r0, r1⟩ | ⟨rfl, r0, r1, r2⟩
          · rcases field_cases p.wide g d with ⟨hgt, h0, h1, hf⟩ | ⟨hgt, h0, hf⟩ | ⟨hgt, h0, h1, hf⟩ | ⟨hgt, h0, hf⟩ | ⟨hgt, h0, hf⟩
            · have HX := Lib.hid (show RfRel p d a b g m0 m1 1 from Or.inr (Or.inl ⟨rfl, hf⟩))
              clear hf hrel 
              rw [hgt] at t0
              clear hgt
              go_wp2
              go_roundw
              case rel => exact ⟨1, rfl, HX, hmem⟩
              case measure => simp [intOf]
            · have HX := Lib.hid (insR_f0 (p := p) (i := ⟨op, d, a, b, cc, n⟩) (by rw [Hg.out]; exact hf))
              clear hf hrel 
              rw [hgt] at t0
              clear hgt
              go_wp2
              go_ret
              exact ⟨ret_b HX.out.symm, HF.out⟩
            · have HX := Lib.hid (insR_f0 (p := p) (i := ⟨op, d, a, b, cc, n⟩) (by rw [Hg.out]; exact hf))
              clear hf hrel 
              rw [hgt] at t0
              clear hgt
              go_wp2
              go_ret
              exact ⟨ret_b HX.out.symm, HF.out⟩
            · have HX := Lib.hid (show RfRel p d a b g m0 m1 1 from Or.inr (Or.inl ⟨rfl, hf⟩))
              clear hf hrel 
              rw [hgt] at t0
              rw [h0] at f0
              clear h0
              clear hgt
              go_wp2
              go_roundw
              case rel => exact ⟨1, rfl, HX, hmem⟩
              case measure => simp [intOf]
            · have HX := Lib.hid (insR_f0 (p := p) (i := ⟨op, d, a, b, cc, n⟩) (by rw [Hg.out]; exact hf))
              clear hf hrel 
              rw [hgt] at t0
              clear hgt
              go_wp2
              go_ret
              exact ⟨ret_b HX.out.symm, HF.out⟩
          · rcases field_cases p.wide m0 a with ⟨hgt, h0, h1, hf⟩ | ⟨hgt, h0, hf⟩ | ⟨hgt, h0, h1, hf⟩ | ⟨hgt, h0, hf⟩ | ⟨hgt, h0, hf⟩
            · have HX := Lib.hid (show RfRel p d a b g m0 m1 2 from Or.inr (Or.inr (Or.inl ⟨rfl, r0, hf⟩)))
              clear hf hrel r0
              rw [hgt] at t1
              clear hgt
              go_wp2
              go_roundw
              case rel => exact ⟨2, rfl, HX, hmem⟩
              case measure => simp [intOf]
            · have HX := Lib.hid (insR_f1 (p := p) (i := ⟨op, d, a, b, cc, n⟩) (by rw [Hm0.out]; exact hf))
              clear hf hrel r0
              rw [hgt] at t1
              clear hgt
              go_wp2
              go_ret
              exact ⟨ret_b HX.out.symm, HF.out⟩
            · have HX := Lib.hid (insR_f1 (p := p) (i := ⟨op, d, a, b, cc, n⟩) (by rw [Hm0.out]; exact hf))
              clear hf hrel r0
              rw [hgt] at t1
              clear hgt
              go_wp2
              go_ret
              exact ⟨ret_b HX.out.symm, HF.out⟩
            · have HX := Lib.hid (show RfRel p d a b g m0 m1 2 from Or.inr (Or.inr (Or.inl ⟨rfl, r0, hf⟩)))
              clear hf hrel r0
              rw [hgt] at t1
              rw [h0] at f1
              clear h0
              clear hgt
              go_wp2
              go_roundw
              case rel => exact ⟨2, rfl, HX, hmem⟩
              case measure => simp [intOf]
            · have HX := Lib.hid (insR_f1 (p := p) (i := ⟨op, d, a, b, cc, n⟩) (by rw [Hm0.out]; exact hf))
              clear hf hrel r0
              rw [hgt] at t1
              clear hgt
              go_wp2
              go_ret
              exact ⟨ret_b HX.out.symm, HF.out⟩
          · rcases field_cases p.wide m1 b with ⟨hgt, h0, h1, hf⟩ | ⟨hgt, h0, hf⟩ | ⟨hgt, h0, h1, hf⟩ | ⟨hgt, h0, hf⟩ | ⟨hgt, h0, hf⟩
            · have HX := Lib.hid (show RfRel p d a b g m0 m1 3 from Or.inr (Or.inr (Or.inr ⟨rfl, r0, r1, hf⟩)))
              clear hf hrel r0 r1
              rw [hgt] at t2
              clear hgt
              go_wp2
              go_roundw
              case rel => exact ⟨3, rfl, HX, hmem⟩
              case measure => simp [intOf]
            · have HX := Lib.hid (insR_f2 (p := p) (i := ⟨op, d, a, b, cc, n⟩) (by rw [Hm1.out]; exact hf))
              clear hf hrel r0 r1
              rw [hgt] at t2
              clear hgt
              go_wp2
              go_ret
              exact ⟨ret_b HX.out.symm, HF.out⟩
            · have HX := Lib.hid (insR_f2 (p := p) (i := ⟨op, d, a, b, cc, n⟩) (by rw [Hm1.out]; exact hf))
              clear hf hrel r0 r1
              rw [hgt] at t2
              clear hgt
              go_wp2
              go_ret
              exact ⟨ret_b HX.out.symm, HF.out⟩
            · have HX := Lib.hid (show RfRel p d a b g m0 m1 3 from Or.inr (Or.inr (Or.inr ⟨rfl, r0, r1, hf⟩)))
              clear hf hrel r0 r1
              rw [hgt] at t2
              rw [h0] at f2
              clear h0
              clear hgt
              go_wp2
              go_roundw
              case rel => exact ⟨3, rfl, HX, hmem⟩
              case measure => simp [intOf]
            · have HX := Lib.hid (insR_f2 (p := p) (i := ⟨op, d, a, b, cc, n⟩) (by rw [Hm1.out]; exact hf))
              clear hf hrel r0 r1
              rw [hgt] at t2
              clear hgt
              go_wp2
              go_ret
              exact ⟨ret_b HX.out.symm, HF.out⟩
          · have HR := Lib.hid (insR_rest (p := p) (i := ⟨op, d, a, b, cc, n⟩) HK.out HN.out (by rw [Hg.out]; exact r0) (by rw [Hm0.out]; exact r1) (by rw [Hm1.out]; exact r2))
            have HD := Lib.hid (fun h => field_in r0 (Hg.out.symm.trans h))
            have HA := Lib.hid (fun h => field_in r1 (Hm0.out.symm.trans (decide_eq_true h)))
            have HB := Lib.hid (fun h => field_in r2 (Hm1.out.symm.trans (decide_eq_true h)))
            obtain ⟨d0, d1, d2, d3, d4, d5⟩ := hmem.out.im.ci
            obtain ⟨c0, c1⟩ := hmem.out.im.cp
            clear r0 r1 r2 hrel f0 f1 f2 t0 t1 t2
            simp only at HR
            rcases jump_cases op with h8 | ⟨h8, h9⟩ | ⟨h8, h9⟩
            · have HX := Lib.hid (rest_jump HR.out (by simp only [beq_iff_eq] at *; omega))
              by_cases hc : 0 ≤ cc ∧ cc < p.code.length
              · have HY := Lib.hid (HX.out.1 hc)
                obtain ⟨h0, h1⟩ := hc
                clear HX
                go_wp2_with fail
                refine (refWidths_any R _ p ⟨op, d, a, b, cc, n⟩ _ (H.out.kept HF.out (fun _ _ h => h)) HK.out HD.out HA.out HB.out).mono ?_
                rintro e w1 ⟨rfl, f1⟩
                go_wp2
                go_ret
                exact ⟨ret_b HY.out.symm, HF.out.trans f1⟩
              · by_cases h0 : 0 ≤ cc
                · have h1 : (p.code.length : Int) ≤ cc := by omega
                  have HY := Lib.hid (HX.out.2 (Or.inr h1))
                  clear HX hc
                  go_wp2
                  go_ret
                  exact ⟨ret_b HY.out.symm, HF.out⟩
                · have h1 : cc < 0 := by omega
                  have HY := Lib.hid (HX.out.2 (Or.inl h1))
                  clear HX hc h0
                  go_wp2
                  go_ret
                  exact ⟨ret_b HY.out.symm, HF.out⟩
            · have HX := Lib.hid (rest_jump HR.out (by simp only [beq_iff_eq] at *; omega))
              by_cases hc : 0 ≤ cc ∧ cc < p.code.length
              · have HY := Lib.hid (HX.out.1 hc)
                obtain ⟨h0, h1⟩ := hc
                clear HX
                go_wp2_with fail
                refine (refWidths_any R _ p ⟨op, d, a, b, cc, n⟩ _ (H.out.kept HF.out (fun _ _ h => h)) HK.out HD.out HA.out HB.out).mono ?_
                rintro e w1 ⟨rfl, f1⟩
                go_wp2
                go_ret
                exact ⟨ret_b HY.out.symm, HF.out.trans f1⟩
              · by_cases h0 : 0 ≤ cc
                · have h1 : (p.code.length : Int) ≤ cc := by omega
                  have HY := Lib.hid (HX.out.2 (Or.inr h1))
                  clear HX hc
                  go_wp2
                  go_ret
                  exact ⟨ret_b HY.out.symm, HF.out⟩
                · have h1 : cc < 0 := by omega
                  have HY := Lib.hid (HX.out.2 (Or.inl h1))
                  clear HX hc h0
                  go_wp2
                  go_ret
                  exact ⟨ret_b HY.out.symm, HF.out⟩
            · have HX := Lib.hid (rest_nojump HR.out h8 h9)
              by_cases hc : cc = 0
              · have HY := Lib.hid (HX.out.1 hc)
                have hc0 : (cc != 0) = false := by simpa using hc
                clear HX hc
                go_wp2_with fail
                refine (refWidths_any R _ p ⟨op, d, a, b, cc, n⟩ _ (H.out.kept HF.out (fun _ _ h => h)) HK.out HD.out HA.out HB.out).mono ?_
                rintro e w1 ⟨rfl, f1⟩
                go_wp2
                go_ret
                exact ⟨ret_b HY.out.symm, HF.out.trans f1⟩
              · have HY := Lib.hid (HX.out.2 hc)
                have hc0 : (cc != 0) = true := by simpa using hc
                clear HX hc
                go_wp2
                go_ret
                exact ⟨ret_b HY.out.symm, HF.out⟩
end Go.Proofs.Ytodmkjeankbieab

/- The walk of the reference's May. -/
namespace Go.Proofs.Ytodmkjeankbieab
open Go.RowKit Go.Sort

def lenB (p : Pg) : Bool := decide (1 ≤ p.wide.length) && decide (p.wide.length ≤ 12) && decide (1 ≤ p.code.length) && decide (p.code.length ≤ 40)
theorem mayR_len {p : Pg} (h : lenB p = false) : mayR p = false := by unfold mayR lenB at *; rw [h]; rfl
theorem mayR_all {p : Pg} (h : lenB p = true) : mayR p = p.code.all (insR p) := by unfold mayR lenB at *; rw [h]; rfl

set_option maxHeartbeats 1000000 in
set_option maxRecDepth 100000 in
theorem refMay_any (R : Nat → Prop) (v : Value) (p : Pg) (w : World) (h : RdPg w R v p) :
    Calls Try.prog 20 #[v] w fun e w' => e = .returned (.bool (mayB p)) ∧ Fr w w' := by
  rw [mayB_eq]
  have H := Lib.hid h
  obtain ⟨vw, vc, rfl, ⟨A, c, rfl, hl, hr⟩, ⟨A', c', rfl, hl', hr', ho'⟩⟩ := h
  unfold maxLen at hl hl'
  clear hr ho'
  have HR := Lib.hid hr'
  clear hr'
  by_cases hlen : 1 ≤ p.wide.length ∧ p.wide.length ≤ 12 ∧ 1 ≤ p.code.length ∧ p.code.length ≤ 40
  · have HA := Lib.hid (mayR_all (p := p) (by unfold lenB; simp [hlen]))
    obtain ⟨l1, l2, l3, l4⟩ := hlen
    go_enter Try.func20, Try.ntmps20
    go_wp2
    go_loopw [3] (fun i wr => ∃ k : Nat, k ≤ p.code.length ∧ i = .int .i64 k ∧ Hid (allTo p insR k) ∧ Blk wr w.heap.size 25 #[.slice A p.wide.length c, .slice A' p.code.length c'] ∧ Fr w wr) (fun i _ => p.code.length - (intOf i).toNat)
    case atStart => exact ⟨0, by omega, rfl, allTo_0 p insR, Blk.new w _ _, (Kept.refl _ w).alloc _⟩
    case round =>
      obtain ⟨k, hk, rfl, hall, hblk, hfr⟩ := hrel
      have c0 := hblk.cell 0
      have c1 := hblk.cell 1
      simp only [List.getElem?_toArray, List.getElem?_cons_succ, List.getElem?_cons_zero] at c0 c1
      have hsz := hblk.lt
      have HB := Lib.hid hblk
      have HF := Lib.hid hfr
      clear hblk hfr
      by_cases hlt : k < p.code.length
      · have hx : p.code[k]? = some p.code[k] := List.getElem?_eq_getElem hlt
        obtain ⟨b, off, rfl, _, d0, d1, d2, d3, d4, d5⟩ := (HR.out.kept HF.out (fun _ _ h => h)).ins hx
        have HX := Lib.hid hx
        clear hx
        generalize p.code[k] = i at *
        have hb := cell_lt d0
        have hk0 : (0 : Int) ≤ (k : Int) := Int.natCast_nonneg _
        have hk1 : (k : Int) < (p.code.length : Int) := by omega
        have HI := Lib.hid (fun (d : Nat) (os : Array Obj) => refIns_any R _ p i (grow (redrawn wr d) os) (H.out.kept (HF.out.trans (kept_of_regrown (S := fun _ => False) (w := wr) d os)) (fun _ _ h => h)))
        have q0 := cell_regrown c0
        have q1 := cell_regrown c1
        have r0 := cell_regrown d0
        have r1 := cell_regrown d1
        have r2 := cell_regrown d2
        have r3 := cell_regrown d3
        have r4 := cell_regrown d4
        have r5 := cell_regrown d5
        cases hi : insR p i with
        | true =>
          have HN := Lib.hid (allTo_s hall.out HX.out hi)
          rw [hi] at HI
          clear hi
          go_wp2
          refine wp_region_quiet_below (by kernel_rfl) (by kernel_rfl) ?_
          repeat (quiet_step (refine Calls.regrown_of ((HI.out _ _).mono fun e w' h => ⟨h.1, h.2.below⟩)))
          refine wpQuiet_nil ?_
          intro _ hw2
          obtain ⟨pq, rfl⟩ := hw2
          go_wp2
          go_roundw
          case rel => exact ⟨k + 1, by omega, by go_num, HN, HB.out.kept (kept_of_regrown (S := fun _ => False) _ _) (fun h => h), HF.out.trans (kept_of_regrown _ _)⟩
          case measure => simp [intOf]; omega
        | false =>
          have HN : Hid (mayR p = false) := by show _ = _; rw [HA.out]; exact allTo_no (f := insR) HX.out hi
          rw [hi] at HI
          clear hi
          go_wp2
          refine wp_region_quiet_below (by kernel_rfl) (by kernel_rfl) ?_
          repeat (quiet_step (refine Calls.regrown_of ((HI.out _ _).mono fun e w' h => ⟨h.1, h.2.below⟩)))
          refine wpQuiet_nil ?_
          intro _ hw2
          obtain ⟨pq, rfl⟩ := hw2
          go_wp2
          go_ret
          exact ⟨ret_b HN.out.symm, HF.out.trans (kept_of_regrown _ _)⟩
      · obtain rfl : k = p.code.length := by omega
        have HN : Hid (mayR p = true) := by show _ = _; rw [HA.out]; exact allTo_all hall.out
        clear hall hk
        go_wp2
        go_ret
        exact ⟨ret_b HN.out.symm, HF.out⟩
  · have HN := Lib.hid (mayR_len (p := p) (by unfold lenB; rw [Bool.eq_false_iff]; intro h; simp at h; omega))
    go_enter Try.func20, Try.ntmps20
    go_wp2
    all_goals first
      | (exfalso; omega)
      | (go_ret; exact ⟨ret_b HN.out.symm, (Kept.refl _ w).alloc _⟩)
end Go.Proofs.Ytodmkjeankbieab
