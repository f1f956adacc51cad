/- Texts of this claim, packed. -/
import Derived.Test.YtodmkjeankbieabKAllk4
import Derived.Deep.RegionHeld3
import Derived.Deep.OwnRows
set_option linter.all false
namespace Go.Proofs.Ytodmkjeankbieab
open Go.RowKit Go.Sort Go.Maps

def Fc.cells (f : Fc) : Array Value := #[.int .i64 f.pl.k, .int .i64 f.pl.n, .bool f.temp, .int .i64 f.t, .int .u32 f.n]
def Fc.val (f : Fc) : Value := .agg #[.int .i64 f.pl.k, .int .i64 f.pl.n, .bool f.temp, .int .i64 f.t, .int .u32 f.n]
structure Fc.ok (f : Fc) : Prop where
 k : inI f.pl.k
 n : inI f.pl.n
 t : inI f.t
 m : f.n < 4294967296
def Fc.lits (f : Fc) : List Lit := [.int .i64 f.pl.k, .int .i64 f.pl.n, .bool f.temp, .int .i64 f.t, .int .u32 f.n]
def Fc.lit (f : Fc) : Lit := .string (keyBytes f.lits)

theorem Fc.val_inj (f g : Fc) (h : f.val = g.val) : f = g := by
 obtain ⟨⟨k, n⟩, b, t, m⟩ := f
 obtain ⟨⟨k', n'⟩, b', t', m'⟩ := g
 simp only [Fc.val, Value.agg.injEq, Array.mk.injEq, List.cons.injEq, Value.int.injEq, Value.bool.injEq, true_and, and_true] at h
 obtain ⟨rfl, rfl, rfl, rfl, h⟩ := h
 have : m = m' := by omega
 subst this; rfl

theorem wf_i64 {n : Int} (h : inI n) : (Lit.int .i64 n).wf = true := by
 unfold inI at h
 simp [Lit.wf, IntKind.min, IntKind.max, IntKind.bits, IntKind.signed]
 omega
theorem wf_u32 {n : Nat} (h : n < 4294967296) : (Lit.int .u32 (n : Int)).wf = true := by
 simp [Lit.wf, IntKind.min, IntKind.max, IntKind.bits, IntKind.signed]
 omega

section
variable {P : Program} {d : Nat}
theorem int_lits {t : TypeId} (hu : P.underlying t = some (.int .i64)) {n : Int} (h : inI n) : P.keyLits (d + 1) t [.int .i64 n] = some [.int .i64 n] := by
 unfold Program.keyLits
 rw [hu]; simp [wf_i64 h]
theorem u32_lits {t : TypeId} (hu : P.underlying t = some (.int .u32)) {n : Nat} (h : n < 4294967296) : P.keyLits (d + 1) t [.int .u32 (n : Int)] = some [.int .u32 (n : Int)] := by
 unfold Program.keyLits
 rw [hu]; simp [wf_u32 h]
theorem bool_lits {t : TypeId} (hu : P.underlying t = some .bool) {b : Bool} : P.keyLits (d + 1) t [.bool b] = some [.bool b] := by
 unfold Program.keyLits
 rw [hu]
theorem int_inv {t : TypeId} (hu : P.underlying t = some (.int .i64)) {x : Value} {L : List Lit} (h : P.keyLits (d + 1) t [x] = some L) : ∃ n, inI n ∧ x = .int .i64 n ∧ L = [.int .i64 n] := by
 unfold Program.keyLits at h
 rw [hu] at h
 cases x <;> simp at h
 obtain ⟨⟨rfl, h1⟩, rfl⟩ := h
 refine ⟨_, ?_, rfl, rfl⟩
 simp [Lit.wf, IntKind.min, IntKind.max, IntKind.bits, IntKind.signed] at h1
 unfold inI; omega
theorem bool_inv {t : TypeId} (hu : P.underlying t = some .bool) {x : Value} {L : List Lit} (h : P.keyLits (d + 1) t [x] = some L) : ∃ b, x = .bool b ∧ L = [.bool b] := by
 unfold Program.keyLits at h
 rw [hu] at h
 cases x <;> simp at h
 exact ⟨_, rfl, h.symm⟩
theorem u32_inv {t : TypeId} (hu : P.underlying t = some (.int .u32)) {x : Value} {L : List Lit} (h : P.keyLits (d + 1) t [x] = some L) : ∃ n : Nat, n < 4294967296 ∧ x = .int .u32 n ∧ L = [.int .u32 n] := by
 unfold Program.keyLits at h
 rw [hu] at h
 cases x <;> simp at h
 rename_i n
 obtain ⟨⟨rfl, h1⟩, rfl⟩ := h
 simp [Lit.wf, IntKind.min, IntKind.max, IntKind.bits, IntKind.signed] at h1
 have e : ((n.toNat : Nat) : Int) = n := by omega
 exact ⟨n.toNat, by omega, by rw [e], by rw [e]⟩
theorem five {l : List Value} (h : l.length = 5) : ∃ a b c d e, l = [a, b, c, d, e] := by
 match l, h with
 | [a, b, c, d, e], _ => exact ⟨a, b, c, d, e, rfl⟩
structure FactTys (P : Program) (K L I B U : TypeId) (fs ps : Array Field) : Prop where
 hK : P.underlying K = some (.struct fs)
 hL : P.underlying L = some (.struct ps)
 hI : P.underlying I = some (.int .i64)
 hB : P.underlying B = some .bool
 hU : P.underlying U = some (.int .u32)
 cK : P.cellsOf K = 5
 cL : P.cellsOf L = 2
 cI : P.cellsOf I = 1
 cB : P.cellsOf B = 1
 cU : P.cellsOf U = 1
 nK : fs.all (·.name != "_") = true
 nL : ps.all (·.name != "_") = true
 fK : fs.toList.map (fun f => (f.type, f.offset)) = [(L, 0), (B, 2), (I, 3), (U, 4)]
 fL : ps.toList.map (fun f => (f.type, f.offset)) = [(I, 0), (I, 1)]
 kt : P.keyType K = true
variable {K L I B U : TypeId} {fs ps : Array Field}
theorem mapM_ty {f : TypeId → Nat → Option (List Lit)} : ∀ l : List Field, (l.mapM fun x => f x.type x.offset) = (l.map fun x => (x.type, x.offset)).mapM fun x => f x.1 x.2
 | [] => rfl
 | x :: l => by rw [List.mapM_cons, List.map_cons, List.mapM_cons, mapM_ty l]
theorem place_lits (h : FactTys P K L I B U fs ps) (a b : Value) : P.keyLits (d + 2) L [a, b] = (P.keyLits (d + 1) I [a]).bind fun x => (P.keyLits (d + 1) I [b]).bind fun y => some (x ++ y) := by
 conv => lhs; unfold Program.keyLits
 rw [h.hL]
 simp only [h.cL, h.nL, List.length_cons, List.length_nil, and_self, if_true]
 rw [mapM_ty (f := fun t o => P.keyLits (d + 1) t ((List.drop o [a, b]).take (P.cellsOf t))), h.fL]
 simp [h.cI]
 all_goals (cases P.keyLits (d + 1) I [a] <;> try simp)
 all_goals (cases P.keyLits (d + 1) I [b] <;> try simp)
theorem fact_lits_any (h : FactTys P K L I B U fs ps) (a b c t n : Value) : P.keyLits (d + 3) K [a, b, c, t, n] = (P.keyLits (d + 1) I [a]).bind fun x => (P.keyLits (d + 1) I [b]).bind fun y => (P.keyLits (d + 2) B [c]).bind fun z => (P.keyLits (d + 2) I [t]).bind fun u => (P.keyLits (d + 2) U [n]).bind fun v => some (x ++ y ++ z ++ u ++ v) := by
 conv => lhs; unfold Program.keyLits
 rw [h.hK]
 simp only [h.cK, h.nK, List.length_cons, List.length_nil, and_self, if_true]
 rw [mapM_ty (f := fun ty o => P.keyLits (d + 2) ty ((List.drop o [a, b, c, t, n]).take (P.cellsOf ty))), h.fK]
 simp [h.cL, h.cB, h.cI, h.cU, place_lits h]
 all_goals (cases P.keyLits (d + 1) I [a] <;> try simp)
 all_goals (cases P.keyLits (d + 1) I [b] <;> try simp)
 all_goals (cases P.keyLits (d + 2) B [c] <;> try simp)
 all_goals (cases P.keyLits (d + 2) I [t] <;> try simp)
 all_goals (cases P.keyLits (d + 2) U [n] <;> try simp)
theorem fact_key_any (h : FactTys P K L I B U fs ps) (hs : 2 ≤ P.types.size) (f : Fc) (hf : f.ok) : keyOf P K f.val = some f.lit := by
 have e : P.types.size + 1 = (P.types.size - 2) + 3 := by omega
 unfold keyOf
 rw [h.hK]
 simp only [h.kt, Bool.true_and, Fc.val, Value.formed, h.hK, h.cK, Value.cells]
 rw [e]
 simp [fact_lits_any h, int_lits h.hI hf.k, int_lits h.hI hf.n, int_lits h.hI hf.t, bool_lits h.hB, u32_lits h.hU hf.m, Fc.lit, Fc.lits]
theorem fact_inv_any (h : FactTys P K L I B U fs ps) (hs : 2 ≤ P.types.size) (v : Value) (l : Lit) (hk : keyOf P K v = some l) : ∃ f : Fc, f.ok ∧ v = f.val ∧ l = f.lit := by
 obtain ⟨xs, L', rfl, hL, rfl⟩ := keyOf_top (by rw [h.hK]) hk
 have e : P.types.size + 1 = (P.types.size - 2) + 3 := by omega
 rw [e] at hL
 generalize P.types.size - 2 = d at hL
 have hl : xs.toList.length = 5 := by
   unfold Program.keyLits at hL
   rw [h.hK] at hL
   simp only at hL
   split at hL
   · rename_i hh; rw [hh.1, h.cK]
   · cases hL
 obtain ⟨a, b, c, t, n, hxs⟩ := five hl
 rw [hxs, fact_lits_any h] at hL
 have hx : xs = #[a, b, c, t, n] := by rw [← hxs]
 subst hx
 simp only [Option.bind_eq_some_iff] at hL
 obtain ⟨x, hx, y, hy, z, hz, u, hu, v, hv, hL⟩ := hL
 obtain ⟨k1, i1, rfl, rfl⟩ := int_inv h.hI hx
 obtain ⟨k2, i2, rfl, rfl⟩ := int_inv h.hI hy
 obtain ⟨k3, rfl, rfl⟩ := bool_inv h.hB hz
 obtain ⟨k4, i4, rfl, rfl⟩ := int_inv h.hI hu
 obtain ⟨k5, i5, rfl, rfl⟩ := u32_inv h.hU hv
 cases hL
 exact ⟨⟨⟨k1, k2⟩, k3, k4, k5⟩, ⟨i1, i2, i4, i5⟩, rfl, rfl⟩
end
theorem fact_keyed : Keyed Try.prog 140 := Keyed.of_law (deep_law_laid (m := 3) (by kernel_rfl) (by decide) (of_decide_eq_true (by kernel_rfl)) (by kernel_rfl) (by kernel_rfl))
theorem fact_tys : ∃ fs ps, FactTys Try.prog 140 57 3 4 36 fs ps :=
 ⟨_, _, Try.underlying140, Try.underlying57, Try.underlying3, Try.underlying4, Try.underlying36, by kernel_rfl, by kernel_rfl, by kernel_rfl, by kernel_rfl, by kernel_rfl, by kernel_rfl, by kernel_rfl, by kernel_rfl, by kernel_rfl, by kernel_rfl⟩
theorem types_two : 2 ≤ Try.prog.types.size := of_decide_eq_true (by kernel_rfl)
theorem setTy : SetTy Try.prog 137 140 4 Fc.ok Fc.val Fc.lit where
 keyed := fact_keyed
 ht := Try.underlying137
 he := Try.underlying4
 hz := fun w => by rw [Try.zeroValue4]
 key := fun f h => let ⟨_, _, t⟩ := fact_tys; fact_key_any t types_two f h
 inv := fun v l h => let ⟨_, _, t⟩ := fact_tys; fact_inv_any t types_two v l h
 vinj := Fc.val_inj
end Go.Proofs.Ytodmkjeankbieab


namespace Go.Proofs.Ytodmkjeankbieab
open Go.RowKit

def ov (k1 n1 k2 n2 : Int) : Bool :=
 if k1 = 2 ∧ k2 = 1 then n2 / 2 == n1 else if k1 = 1 ∧ k2 = 2 then n1 / 2 == n2 else decide (k1 = k2 ∧ n1 = n2)

theorem below2 {w : World} (o1 o2 : Obj) : Below w.heap.size w ((w.alloc o1).alloc o2) :=
 ((Below.refl _ _).alloc (Nat.le_refl _) _).alloc (by simp) _
set_option maxHeartbeats 400000 in
theorem overlap_any (k1 n1 k2 n2 : Int) (w : World) :
   Calls Try.prog 72 #[.agg #[.int .i64 k1, .int .i64 n1], .agg #[.int .i64 k2, .int .i64 n2]] w fun e w' => e = .returned (.bool (ov k1 n1 k2 n2)) ∧ Below w.heap.size w w' := by
 by_cases h1 : k1 = 2 ∧ k2 = 1
 · obtain ⟨rfl, rfl⟩ := h1
   go_enter Try.func72, Try.ntmps72
   go_wp2
   go_ret
   refine ⟨rfl, ?_⟩
   repeat (first | exact Below.refl _ _ | exact below2 _ _ | refine Below.setCell ?_ (by simp) _ | refine Below.alloc ?_ (by simp) _)
 · by_cases h2 : k1 = 1 ∧ k2 = 2
   · obtain ⟨rfl, rfl⟩ := h2
     go_enter Try.func72, Try.ntmps72
     go_wp2
     go_ret
     exact ⟨rfl, below2 _ _⟩
   · by_cases h3 : k1 = k2 ∧ n1 = n2
     · obtain ⟨rfl, rfl⟩ := h3
       have hn : ov k1 n1 k1 n1 = true := by unfold ov; rw [if_neg h1, if_neg h2]; simp
       clear h1 h2
       rw [hn]
       clear hn
       go_enter Try.func72, Try.ntmps72
       go_wp2
       all_goals go_ret
       all_goals exact ⟨rfl, below2 _ _⟩
     · have hn : ov k1 n1 k2 n2 = false := by unfold ov; rw [if_neg h1, if_neg h2]; exact decide_eq_false h3
       rw [hn]
       have g1 : ¬ (k1 = 2 ∧ k2 = 1) := h1
       have g2 : ¬ (k1 = 1 ∧ k2 = 2) := h2
       clear hn h1 h2
       by_cases e1 : k1 = 2 <;> by_cases e2 : k1 = 1 <;> by_cases e3 : k2 = 1 <;> by_cases e4 : k2 = 2
       all_goals first | (exfalso; omega) | skip
       all_goals
         clear g1 g2
         go_enter Try.func72, Try.ntmps72
         go_wp2
       all_goals go_ret
       all_goals exact ⟨rfl, below2 _ _⟩
end Go.Proofs.Ytodmkjeankbieab


namespace Go.Proofs.Ytodmkjeankbieab
open Go.RowKit Go.Sort

theorem refGives_any (op : Int) (w : World) :
   Calls Try.prog 44 #[.int .i64 op] w fun e w' => e = .returned (.bool (gvs op)) ∧ w = w' := by
 go_enter Try.func44, Try.ntmps44
 go_wp2
 all_goals go_ret
 all_goals refine ⟨ret_b ?_, rfl⟩
 all_goals simp only [beq_iff_eq, beq_eq_false_iff_ne] at *
 all_goals unfold gvs
 all_goals first
   | (rw [decide_eq_false (by omega)]; done)
   | (rw [decide_eq_true (by omega)]; done)

theorem many_0 {op : Int} (h : op = 1 ∨ op = 3 ∨ op = 8 ∨ op = 10) : many op = 0 := by unfold many; rw [if_pos h]
theorem many_1 {op : Int} (h : op = 2 ∨ op = 4 ∨ op = 6 ∨ op = 7 ∨ op = 9) : many op = 1 := by unfold many; rw [if_neg (by omega), if_pos h]
theorem many_2 {op : Int} (h : ¬ (op = 1 ∨ op = 3 ∨ op = 8 ∨ op = 10)) (h' : ¬ (op = 2 ∨ op = 4 ∨ op = 6 ∨ op = 7 ∨ op = 9)) : many op = 2 := by unfold many; rw [if_neg h, if_neg h']
theorem many_le (op : Int) : many op ≤ 2 := by unfold many; split <;> (try split) <;> omega
theorem refMany_any (op : Int) (w : World) :
   Calls Try.prog 66 #[.int .i64 op] w fun e w' => e = .returned (.int .i64 (many op : Int)) ∧ w = w' := by
 go_enter Try.func66, Try.ntmps66
 go_wp2
 all_goals go_ret
 all_goals refine ⟨ret_i ?_, rfl⟩
 all_goals simp only [beq_iff_eq, beq_eq_false_iff_ne] at *
 all_goals first
   | (rw [many_0 (by omega)]; rfl)
   | (rw [many_1 (by omega)]; rfl)
   | (rw [many_2 (by omega) (by omega)]; rfl)

theorem refKnown_any (op : Int) (w : World) :
   Calls Try.prog 85 #[.int .i64 op] w fun e w' => e = .returned (.bool (known op)) ∧ w = w' := by
 go_enter Try.func85, Try.ntmps85
 go_wp2
 all_goals go_ret
 all_goals refine ⟨ret_b ?_, rfl⟩
 all_goals unfold known
 all_goals (rw [Bool.eq_iff_iff]; simp; omega)

theorem refUses_any (i : In) (w : World) :
   Calls Try.prog 109 #[i.val] w fun e w' => ∃ g, e = .returned (.slice (some ⟨g, 0, none⟩) (many i.op) 2) ∧ w.heap.size ≤ g ∧ Blk w' g 3 #[.int .i64 i.a, .int .i64 i.b] ∧ Fr w w' := by
 obtain ⟨op, d, a, b, cc, n⟩ := i
 unfold In.val
 simp only
 have hm := many_le op
 have HM := Lib.hid (refMany_any op)
 go_enter Try.func109, Try.ntmps109
 go_wp2_with (go_at_call 66; refine (HM.out _).mono ?_; rintro e w' ⟨rfl, rfl⟩)
 go_ret
 refine ⟨w.heap.size + 1, rfl, by omega, ?_, ((Kept.refl _ w).alloc _).alloc _⟩
 have := Blk.new (w.alloc (.cells #[.int .i64 op, .int .i64 d, .int .i64 a, .int .i64 b, .int .i64 cc, .int .u32 n] 45)) 3 #[.int .i64 a, .int .i64 b]
 simpa using this

theorem slBool : SlTy Try.prog 22 4 1 1 := SlTy.mk' (z := .bool false) Try.underlying22 (by kernel_rfl) rfl (by decide)

def tempIn' (p : Pg) (t : Int) : Prop := 0 ≤ t ∧ t < p.wide.length
theorem step_app {P : Program} {w : World} {ops : Array Oper} {o : Oper} {a : Act} {K : Act → World → Prop} {Q : Exit → Act → World → Prop} {E : Prop} (hgd : o.guard = none) {base : Nat} {t e : TypeId} {size bytes : Nat} (hT : SlTy P t e size bytes) (s x : Operand)
   (ho : o.op = .call { callee := .builtin .append, args := #[s, x], argTypes := #[t, t] })
   (v : Value) (n : Nat) (xs : List Value) (hs : a.eval s = v) (hown : w.ownsRow base e size v n xs)
   (R : Nat → Prop) (A : Option Addr) (m c : Nat) (news : List Value) (hx : a.eval x = .slice A m c) (hr : Reads w R size A m news) (h1 : ∀ u ∈ news, u.oneCell' = true)
   (hbytes : (n + m) * bytes ≤ 140737488355328) (h63 : n + m ≤ maxLen) (hbase : base ≤ w.heap.size)
   (h : ∀ v' w', w'.ownsRow base e size v' (n + m) (xs ++ news) → Kept (fun k => v.ownBlock = some k) w w' → (v'.ownBlock = v.ownBlock ∨ v'.ownBlock = some w.heap.size) → K (a.put o.dst v') w') :
   if Region.wanted o (yielded ops a.tmps) = true then Oper.wp P o a w K Q else E := by
 have hw : Region.wanted o (yielded ops a.tmps) = true := by simp [Region.wanted, hgd]
 rw [if_pos hw]
 exact wp_app w hT s x ho v n xs hs hown R A m c news hx hr h1 hbytes h63 hbase h

def BoOwn (w : World) (base : Nat) (v : Value) (l : List Bool) : Prop := w.ownsRow base 4 1 v l.length (l.map Value.bool)
theorem BoOwn.nil (w : World) (base : Nat) : BoOwn w base (.slice none 0 0) [] := ⟨rfl, Or.inl ⟨rfl, rfl⟩⟩
theorem BoOwn.one {w : World} {base : Nat} {v : Value} {x : Bool} (h : w.ownsRow base 4 1 v (0 + 1) ([] ++ #[Value.bool x].toList)) : BoOwn w base v [x] := h
theorem BoOwn.snoc {w : World} {base : Nat} {v : Value} {l : List Bool} {x : Bool} (h : w.ownsRow base 4 1 v (l.length + 1) (l.map Value.bool ++ #[Value.bool x].toList)) : BoOwn w base v (l ++ [x]) := by
 unfold BoOwn; rw [List.length_append, List.map_append]; exact h

def kindTo (p : Pg) (op d a b : Int) (k : Nat) (l : List Bool) : Prop := l = (if gvs op then [wd p.wide d] else []) ++ (([a, b].take (many op)).take k).map (wd p.wide)
theorem kindTo_0 {p : Pg} {op d a b : Int} {l : List Bool} (h : l = if gvs op then [wd p.wide d] else []) : kindTo p op d a b 0 l := by unfold kindTo; simp [h]
theorem kindTo_len {p : Pg} {op d a b : Int} {k : Nat} {l : List Bool} (h : kindTo p op d a b k l) : l.length ≤ 3 := by
 rw [h]; split <;> simp <;> omega
theorem kindTo_s {p : Pg} {op d a b : Int} {k : Nat} {l : List Bool} {t : Int} {x : Bool} (h : kindTo p op d a b k l) (ht : ([a, b].take (many op))[k]? = some t) (hx : wd p.wide t = x) : kindTo p op d a b (k + 1) (l ++ [x]) := by
 unfold kindTo at *
 rw [List.take_add_one, ht, h, ← hx]
 simp [List.append_assoc]
theorem kindTo_all {p : Pg} {i : In} {l : List Bool} (h : kindTo p i.op i.d i.a i.b (many i.op) l) : kinds p i = l := by
 rw [h]; unfold kinds uses
 rw [List.take_of_length_le (l := [i.a, i.b].take (many i.op)) (by simp; omega)]

theorem InsMem.start (w : World) (vw vc : Value) (op d a b c : Int) (n : Nat) :
   InsMem w ((w.alloc (.cells #[vw, vc] 25)).alloc (.cells #[.int .i64 op, .int .i64 d, .int .i64 a, .int .i64 b, .int .i64 c, .int .u32 n] 45)) vw vc ⟨op, d, a, b, c, n⟩ := by
 refine ⟨(Blk.new w _ _).alloc _, ?_, ((Kept.refl _ w).alloc _).alloc _⟩
 have := Blk.new (w.alloc (.cells #[vw, vc] 25)) 45 #[.int .i64 op, .int .i64 d, .int .i64 a, .int .i64 b, .int .i64 c, .int .u32 n]
 simpa using this
theorem InsMem.app {w wr w2 : World} {vw vc v : Value} {i : In} {l : List Bool} (h : InsMem w wr vw vc i) (ho : BoOwn wr w.heap.size v l) (hk : Kept (fun k => v.ownBlock = some k) wr w2) : InsMem w w2 vw vc i :=
 ⟨h.bp.kept hk (own_blk_ne ho h.bp (by decide)), h.bi.kept hk (own_blk_ne ho h.bi (by decide)), h.fr.app ho hk⟩
theorem InsMem.alloc {w wr : World} {vw vc : Value} {i : In} (h : InsMem w wr vw vc i) (o : Obj) : InsMem w (wr.alloc o) vw vc i := ⟨h.bp.alloc o, h.bi.alloc o, h.fr.alloc o⟩
theorem InsMem.cp {w wr : World} {vw vc : Value} {i : In} (h : InsMem w wr vw vc i) : wr.cell? ⟨w.heap.size, 0, none⟩ = some vw ∧ wr.cell? ⟨w.heap.size, 1, none⟩ = some vc := by
 have c0 := h.bp.cell 0
 have c1 := h.bp.cell 1
 simp only [List.getElem?_toArray, List.getElem?_cons_succ, List.getElem?_cons_zero] at c0 c1
 exact ⟨c0, c1⟩
theorem InsMem.ci {w wr : World} {vw vc : Value} {op d a b c : Int} {n : Nat} (h : InsMem w wr vw vc ⟨op, d, a, b, c, n⟩) : wr.cell? ⟨w.heap.size + 1, 0, none⟩ = some (.int .i64 op) ∧ wr.cell? ⟨w.heap.size + 1, 1, none⟩ = some (.int .i64 d) ∧
   wr.cell? ⟨w.heap.size + 1, 2, none⟩ = some (.int .i64 a) ∧ wr.cell? ⟨w.heap.size + 1, 3, none⟩ = some (.int .i64 b) ∧ wr.cell? ⟨w.heap.size + 1, 4, none⟩ = some (.int .i64 c) ∧ wr.cell? ⟨w.heap.size + 1, 5, none⟩ = some (.int .u32 n) := by
 have c0 := h.bi.cell 0
 have c1 := h.bi.cell 1
 have c2 := h.bi.cell 2
 have c3 := h.bi.cell 3
 have c4 := h.bi.cell 4
 have c5 := h.bi.cell 5
 simp only [List.getElem?_toArray, List.getElem?_cons_succ, List.getElem?_cons_zero] at c0 c1 c2 c3 c4 c5
 exact ⟨c0, c1, c2, c3, c4, c5⟩
theorem kt2 {p : Pg} {d a b : Int} {L : List Bool} (h : kindTo p 2 d a b (many 2) L) : L = [wd p.wide d, wd p.wide a] := by rw [h]; rfl
theorem kt5 {p : Pg} {d a b : Int} {L : List Bool} (h : kindTo p 5 d a b (many 5) L) : L = [wd p.wide d, wd p.wide a, wd p.wide b] := by rw [h]; rfl
theorem kt6 {p : Pg} {d a b : Int} {L : List Bool} (h : kindTo p 6 d a b (many 6) L) : L = [wd p.wide d, wd p.wide a] := by rw [h]; rfl
theorem kt7 {p : Pg} {d a b : Int} {L : List Bool} (h : kindTo p 7 d a b (many 7) L) : L = [wd p.wide d, wd p.wide a] := by rw [h]; rfl
theorem BoOwn.cells {w : World} {base : Nat} {v : Value} {l : List Bool} (h : BoOwn w base v l) (h0 : 0 < l.length) : ∃ b off c, v = .slice (some ⟨b, off, none⟩) l.length c ∧ b < w.heap.size ∧ ∀ k x, l[k]? = some x → w.cell? ⟨b, off + k, none⟩ = some (.bool x) := by
 obtain ⟨A, c, hv, _, hr⟩ := own_reads h
 obtain ⟨b, off, rfl, hb, hc⟩ := hr.2 h0
 have h1 := hc 0 (.bool l[0]) (by simp)
 exact ⟨b, off, c, hv, cell_lt h1, fun k x hx => hc k (.bool x) (by rw [List.getElem?_map, hx]; rfl)⟩
theorem BoOwn.val {w : World} {base : Nat} {v : Value} {l : List Bool} (h : BoOwn w base v l) : ∃ A c, v = .slice A l.length c := by
 obtain ⟨A, c, hv, _⟩ := own_reads h
 exact ⟨A, c, hv⟩
def allW (L : List Bool) (x : Bool) (k : Nat) : Prop := (L.take k).all (fun y => y == x) = true
theorem allW_s {L : List Bool} {x y : Bool} {k : Nat} (h : allW L x k) (hy : L[k]? = some y) (hxy : y = x) : allW L x (k + 1) := by
 unfold allW at *
 rw [List.take_add_one, List.all_append, h, hy, hxy]; simp
theorem wid2 {p : Pg} {d a b c : Int} {n : Nat} {x y : Bool} (h : kinds p ⟨2, d, a, b, c, n⟩ = [x, y]) : widthsR p ⟨2, d, a, b, c, n⟩ = (x == y) := by
 unfold widthsR; rw [h]; rfl
theorem wid5 {p : Pg} {d a b c : Int} {n : Nat} {x y z : Bool} (h : kinds p ⟨5, d, a, b, c, n⟩ = [x, y, z]) : widthsR p ⟨5, d, a, b, c, n⟩ = (x && !y && !z) := by
 unfold widthsR; rw [h]; rfl
theorem wid6 {p : Pg} {d a b c : Int} {n : Nat} {x y : Bool} (h : kinds p ⟨6, d, a, b, c, n⟩ = [x, y]) : widthsR p ⟨6, d, a, b, c, n⟩ = (!x && y) := by
 unfold widthsR; rw [h]; rfl
theorem wid7 {p : Pg} {d a b c : Int} {n : Nat} {x y : Bool} (h : kinds p ⟨7, d, a, b, c, n⟩ = [x, y]) : widthsR p ⟨7, d, a, b, c, n⟩ = (!x && y) := by
 unfold widthsR; rw [h]; rfl
theorem widE {p : Pg} {i : In} {L : List Bool} (h : kinds p i = L) (h2 : (i.op == 2) = false) (h5 : (i.op == 5) = false) (h6 : (i.op == 6) = false) (h7 : (i.op == 7) = false) : widthsR p i = L.all fun y => y == decide (40 < i.op) := by
 rw [beq_eq_false_iff_ne] at h2 h5 h6 h7
 unfold widthsR; rw [if_neg h2, if_neg h5, if_neg (by omega), h]
theorem app_cell {wr w1 : World} {o : Obj} {v x : Value} {b j : Nat} (hc : wr.cell? ⟨b, j, none⟩ = some x) (hk : Kept (fun k => v.ownBlock = some k) (wr.alloc o).drew w1) (hne : v.ownBlock ≠ some b) : w1.cell? ⟨b, j, none⟩ = some x := by
 have hb := cell_lt hc
 have h1 : (wr.alloc o).cell? ⟨b, j, none⟩ = some x := (((Kept.refl (fun _ => False) wr).alloc o).cell (p := ⟨b, j, none⟩) hb (fun h => h)).trans hc
 exact (hk.cell (p := ⟨b, j, none⟩) (cell_lt h1) hne).trans h1
theorem own_ne_old {w : World} {base b : Nat} {e : TypeId} {size n : Nat} {v : Value} {xs : List Value} (h : w.ownsRow base e size v n xs) (hb : b < base) : v.ownBlock ≠ some b := fun he => by
 have := (own_lt h he).1; omega
theorem InsMem.drew {w wr : World} {vw vc : Value} {i : In} (h : InsMem w wr vw vc i) : InsMem w wr.drew vw vc i := ⟨h.bp, h.bi, h.fr.drew⟩
structure WiMem (w wr : World) (vw vc : Value) (i : In) (g : Nat) (v : Value) (l : List Bool) : Prop where
 im : InsMem w wr vw vc i
 us : Blk wr g 3 #[.int .i64 i.a, .int .i64 i.b]
 ow : BoOwn wr w.heap.size v l
theorem use_cell {w : World} {g k : Nat} {op a b t : Int} (h : Blk w g 3 #[.int .i64 a, .int .i64 b]) (ht : ([a, b].take (many op))[k]? = some t) : w.cell? ⟨g, k, none⟩ = some (.int .i64 t) := by
 rw [h.cell]
 have hk : [a, b][k]? = some t := by
   rw [List.getElem?_take] at ht
   split at ht
   · exact ht
   · cases ht
 match k, hk with
 | 0, hk => simp at hk; subst hk; rfl
 | 1, hk => simp at hk; subst hk; rfl
theorem use_in {p : Pg} {k : Nat} {op a b t : Int} (ha : 0 < many op → tempIn' p a) (hb : 1 < many op → tempIn' p b) (ht : ([a, b].take (many op))[k]? = some t) : tempIn' p t := by
 rw [List.getElem?_take] at ht
 split at ht
 · match k, ht with
   | 0, ht => simp at ht; subst ht; exact ha (by omega)
   | 1, ht => simp at ht; subst ht; exact hb (by omega)
 · cases ht
theorem use_some {k : Nat} {op a b : Int} (hk : k < many op) : ∃ t, ([a, b].take (many op))[k]? = some t := by
 have := many_le op
 exact ⟨_, List.getElem?_eq_getElem (by simp; omega)⟩
theorem pg_at {w : World} {R : Nat → Prop} {A : Option Addr} {c : Nat} {vc : Value} {p : Pg} (h : RdPg w R (.agg #[.slice A p.wide.length c, vc]) p) {t : Int} (ht : tempIn' p t) :
   ∃ b off x, A = some ⟨b, off, none⟩ ∧ w.cell? ⟨b, off + t.toNat, none⟩ = some (.bool x) ∧ wd p.wide t = x ∧ 0 ≤ t ∧ t < p.wide.length := by
 obtain ⟨t0, t1⟩ := ht
 obtain ⟨b, off, rfl, _, hcell⟩ := (pg_wide h).2 (by omega)
 have hx : p.wide[t.toNat]? = some p.wide[t.toNat] := List.getElem?_eq_getElem (by omega)
 exact ⟨b, off, _, rfl, hcell _ _ (by rw [List.getElem?_map, hx]; rfl), wd_get hx, t0, t1⟩
theorem InsMem.lt {w wr : World} {vw vc : Value} {i : In} (h : InsMem w wr vw vc i) : w.heap.size + 1 < wr.heap.size := h.bi.lt

set_option maxHeartbeats 1000000 in
set_option maxRecDepth 100000 in
theorem refWidths_any (R : Nat → Prop) (v : Value) (p : Pg) (i : In) (w : World) (h : RdPg w R v p) (hk : known i.op = true) (hd : gvs i.op = true → tempIn' p i.d) (ha : 0 < many i.op → tempIn' p i.a) (hb : 1 < many i.op → tempIn' p i.b) :
   Calls Try.prog 86 #[v, i.val] w fun e w' => e = .returned (.bool (widthsR p i)) ∧ Fr w w' := by
 have H := Lib.hid h
 obtain ⟨vw, vc, rfl, ⟨A, c, rfl, hl, hr⟩, ⟨A', c', rfl, hl', hr', ho'⟩⟩ := h
 unfold maxLen at hl hl'
 have HK := Lib.hid hk
 have HD := Lib.hid hd
 have HA := Lib.hid ha
 have HB := Lib.hid hb
 clear hr hr' ho' hk hd ha hb
 obtain ⟨op, d, a, b, cc, n⟩ := i
 unfold In.val
 simp only at HK HD HA HB
 have HG := Lib.hid (refGives_any op)
 cases hg : gvs op
 case' true =>
   obtain ⟨t0, t1⟩ := HD.out hg
   obtain ⟨b1, off, rfl, _, hcell⟩ := (pg_wide H.out).2 (by omega)
   have hx : p.wide[d.toNat]? = some p.wide[d.toNat] := List.getElem?_eq_getElem (by omega)
   have r0 := hcell d.toNat (.bool p.wide[d.toNat]) (by rw [List.getElem?_map, hx]; rfl)
   have hwd := Lib.hid (wd_get hx)
   clear hcell hx
   generalize p.wide[d.toNat] = x at *
   have hb1 := cell_lt r0
   rw [hg] at HG
   have HK0 := Lib.hid (kindTo_0 (p := p) (op := op) (d := d) (a := a) (b := b) (l := [x]) (by rw [hg, ← hwd.out]; rfl))
   clear hg
   go_enter Try.func86, Try.ntmps86
   go_wp2_with (first
     | (go_at_call 44; refine (HG.out _).mono ?_; rintro e w' ⟨rfl, rfl⟩)
     | (at_builtin
        refine wpList_app (base := w.heap.size) _ rfl slBool (.tmp 13) (.tmp 20) rfl (.slice none 0 0) 0 [] rfl ⟨rfl, Or.inl ⟨rfl, rfl⟩⟩ (fun _ => True) _ 1 1 _ rfl (Reads.lit' (by simp) trivial rfl) ?_ ?_ ?_ ?_ ?_
        · simp [Value.oneCell']
        · omega
        · unfold maxLen; omega
        · simp; omega
        intro v0 w1 hown1 hk1 hat1
        have hB0 := Lib.hid (BoOwn.one hown1)
        have hI := Lib.hid (InsMem.app (((InsMem.start w _ _ op d a b cc n)).alloc _) (BoOwn.nil _ _) hk1)
        obtain ⟨d0, d1, d2, d3, d4, d5⟩ := hI.out.ci
        clear hown1 hat1 hk1))
   refine (refUses_any ⟨op, d, a, b, cc, n⟩ _).mono ?_
   rintro e w2 ⟨g, rfl, hge, hu, f2⟩
   have HI := Lib.hid (hI.out.below f2)
   have HU := Lib.hid hu
   have HO := Lib.hid (own_kept hB0.out f2 (fun _ _ h => h))
   have HG2 := Lib.hid (show w.heap.size + 2 ≤ g from by have := hI.out.lt; omega)
   clear hu hge d0 d1 d2 d3 d4 d5 hI hB0 f2 r0 hwd HG t0 t1 hb1
   generalize some (⟨b1, off, none⟩ : Addr) = A at *
   go_wp2
 case' false =>
   rw [hg] at HG
   have HK0 := Lib.hid (kindTo_0 (p := p) (op := op) (d := d) (a := a) (b := b) (l := []) (by rw [hg]; rfl))
   clear hg
   go_enter Try.func86, Try.ntmps86
   go_wp2_with (go_at_call 44; refine (HG.out _).mono ?_; rintro e w' ⟨rfl, rfl⟩)
   have hI := Lib.hid (InsMem.start w (.slice A p.wide.length c) (.slice A' p.code.length c') op d a b cc n)
   refine (refUses_any ⟨op, d, a, b, cc, n⟩ _).mono ?_
   rintro e w2 ⟨g, rfl, hge, hu, f2⟩
   have HI := Lib.hid (hI.out.below f2)
   have HU := Lib.hid hu
   have HO := Lib.hid (BoOwn.nil w2 w.heap.size)
   have HG2 := Lib.hid (show w.heap.size + 2 ≤ g from by have := hI.out.lt; omega)
   clear hu hge hI f2 HG
   go_wp2
 all_goals
   go_loopw [5, 7] (fun v i wr => ∃ (k : Nat) (L : List Bool), k ≤ many op ∧ i = .int .i64 k ∧ Hid (kindTo p op d a b k L) ∧ Hid (WiMem w wr (.slice A p.wide.length c) (.slice A' p.code.length c') ⟨op, d, a, b, cc, n⟩ g v L)) (fun _ i _ => many op - (intOf i).toNat)
   case atStart => exact ⟨0, _, Nat.zero_le _, rfl, HK0, ⟨HI.out, HU.out, HO.out⟩⟩
   case round =>
     obtain ⟨k, L, hk, rfl, hkt, hmem⟩ := hrel
     obtain ⟨c0, c1⟩ := hmem.out.im.cp
     obtain ⟨d0, d1, d2, d3, d4, d5⟩ := hmem.out.im.ci
     clear HI HU HO HK0
     have hm2 := many_le op
     have hL := kindTo_len hkt.out
     by_cases hlt : k < many op
     · obtain ⟨t, ht⟩ := use_some (a := a) (b := b) hlt
       have u0 := use_cell hmem.out.us ht
       obtain ⟨b1, off, x, rfl, r0', hwd, t0, t1⟩ := pg_at H.out (use_in (p := p) HA.out HB.out ht)
       have HN := Lib.hid (kindTo_s hkt.out ht hwd)
       have hb0 := cell_lt r0'
       have r0 := (hmem.out.im.fr.cell hb0).trans r0'
       have hb1 := cell_lt r0
       clear r0'
       have hgl := hmem.out.us.lt
       clear ht hwd
       go_wp2
       have HM := Lib.hid hmem.out.im
       have HU := Lib.hid hmem.out.us
       have HO := Lib.hid hmem.out.ow
       have hk0 : (0 : Int) ≤ (k : Int) := Int.natCast_nonneg _
       have hk1 : (k : Int) < (many op : Int) := by omega
       have hgt : w.heap.size + 1 < wr.heap.size := hmem.out.im.lt
       clear hmem d0 d1 d2 d3 d4 d5 c1
       go_region_held3 (fun w' => w'.cell? ⟨w.heap.size, 0, none⟩ = some (.slice (some ⟨b1, off, none⟩) p.wide.length c) ∧ w'.cell? ⟨g, k, none⟩ = some (.int .i64 t) ∧ w'.cell? ⟨b1, off + t.toNat, none⟩ = some (.bool x))
         (first
           | go_keep
           | (go_split_ands
              refine ⟨?_, ?_, ?_⟩
              · exact app_cell c0 hk1 (own_blk_ne HO.out HM.out.bp (by decide))
              · exact app_cell u0 hk1 (own_blk_ne HO.out HU.out (by decide))
              · exact app_cell r0 hk1 (own_ne_old HO.out hb0)))
         ((refine step_app (base := w.heap.size) (by rfl) slBool (.tmp 30) (.tmp 39) (by rfl) u5 L.length (L.map Value.bool) (by rfl) ((HO.out.alloc _).drew) (fun _ => True) _ 1 1 _ (by rfl) (Reads.lit' (by simp) trivial rfl) (by simp [Value.oneCell']) (by omega) (by unfold maxLen; omega) (by simp; omega) ?_; intro v1 w1 hown1 hk1 hat1))
       have HM1 := Lib.hid (InsMem.app ((HM.out.alloc (.cells #[Value.bool x] 4)).drew) ((HO.out.alloc _).drew) hk1)
       have HU1 := Lib.hid (Blk.kept ((HU.out.alloc _).drew) hk1 (own_blk_ne HO.out HU.out (by decide)))
       have HO1 := Lib.hid (BoOwn.snoc hown1)
       clear c0 r0 u0 hown1 hk1 hat1 HM HU HO
       go_wp2
       go_roundw
       case rel => exact ⟨k + 1, L ++ [x], by omega, by go_num, HN, ⟨HM1.out, HU1.out, HO1.out⟩⟩
       case measure => simp [intOf]; omega
     · obtain rfl : k = many op := by omega
       have hkd := Lib.hid (kindTo_all (i := ⟨op, d, a, b, cc, n⟩) hkt.out)
       have HF := Lib.hid hmem.out.im.fr
       have HO := Lib.hid hmem.out.ow
       clear hmem hk hlt
       by_cases e2 : op = 2
       · subst e2
         obtain rfl := kt2 hkt.out
         obtain ⟨bb, ob, cb, rfl, hbl, hc⟩ := HO.out.cells (by simp)
         have l0 := hc 0 _ rfl
         have l1 := hc 1 _ rfl
         have hw := Lib.hid (wid2 hkd.out)
         clear hc hkd HO hkt c0 c1 d1 d2 d3 d4 d5 hL hm2
         generalize wd p.wide d = x at *
         generalize wd p.wide a = y at *
         simp only [List.length_cons, List.length_nil, Nat.add_zero, Nat.zero_add, Nat.reduceAdd] at *
         go_wp2
         go_quiet (fail)
         go_wp2
         go_ret
         exact ⟨ret_b hw.out.symm, HF.out.drewN _⟩
       · have e2 : (op == 2) = false := by rw [beq_eq_false_iff_ne]; exact e2
         by_cases e5 : op = 5
         · subst e5
           obtain rfl := kt5 hkt.out
           obtain ⟨bb, ob, cb, rfl, hbl, hc⟩ := HO.out.cells (by simp)
           have l0 := hc 0 _ rfl
           have l1 := hc 1 _ rfl
           have l2 := hc 2 _ rfl
           have hw := Lib.hid (wid5 hkd.out)
           clear hc hkd HO hkt c0 c1 d1 d2 d3 d4 d5 hL hm2
           generalize wd p.wide d = x at *
           generalize wd p.wide a = y at *
           generalize wd p.wide b = z at *
           simp only [List.length_cons, List.length_nil, Nat.add_zero, Nat.zero_add, Nat.reduceAdd] at *
           cases x <;> cases y <;> cases z
           all_goals
             go_wp2
             go_ret
             exact ⟨ret_b (by rw [hw.out]; rfl), HF.out⟩
         · have e5 : (op == 5) = false := by rw [beq_eq_false_iff_ne]; exact e5
           by_cases e6 : op = 6
           · subst e6
             obtain rfl := kt6 hkt.out
             obtain ⟨bb, ob, cb, rfl, hbl, hc⟩ := HO.out.cells (by simp)
             have l0 := hc 0 _ rfl
             have l1 := hc 1 _ rfl
             have hw := Lib.hid (wid6 hkd.out)
             clear hc hkd HO hkt c0 c1 d1 d2 d3 d4 d5 hL hm2
             generalize wd p.wide d = x at *
             generalize wd p.wide a = y at *
             simp only [List.length_cons, List.length_nil, Nat.add_zero, Nat.zero_add, Nat.reduceAdd] at *
             cases x <;> cases y
             all_goals
               go_wp2
               go_ret
               exact ⟨ret_b (by rw [hw.out]; rfl), HF.out⟩
           have e6 : (op == 6) = false := by rw [beq_eq_false_iff_ne]; exact e6
           by_cases e7 : op = 7
           · subst e7
             obtain rfl := kt7 hkt.out
             obtain ⟨bb, ob, cb, rfl, hbl, hc⟩ := HO.out.cells (by simp)
             have l0 := hc 0 _ rfl
             have l1 := hc 1 _ rfl
             have hw := Lib.hid (wid7 hkd.out)
             clear hc hkd HO hkt c0 c1 d1 d2 d3 d4 d5 hL hm2
             generalize wd p.wide d = x at *
             generalize wd p.wide a = y at *
             simp only [List.length_cons, List.length_nil, Nat.add_zero, Nat.zero_add, Nat.reduceAdd] at *
             cases x <;> cases y
             all_goals
               go_wp2
               go_ret
               exact ⟨ret_b (by rw [hw.out]; rfl), HF.out⟩
           have e7 : (op == 7) = false := by rw [beq_eq_false_iff_ne]; exact e7
           have hw := Lib.hid (widE hkd.out e2 e5 e6 e7)
           obtain ⟨Av, cv, hv⟩ := HO.out.val
           subst hv
           have HC := Lib.hid (fun h0 => HO.out.cells h0)
           clear hkd HO hkt c0 c1 d1 d2 d3 d4 d5 hm2
           generalize hwx : decide (40 < op) = wx at *
           have HWX := Lib.hid hwx
           have hd40 : decide (40 < op) = wx := hwx
           clear hwx
           go_wp2
           go_loop [9] (fun i => ∃ k : Nat, k ≤ L.length ∧ i = .int .i64 k ∧ Hid (allW L wx k)) (fun i => L.length - (intOf i).toNat)
           case atStart => exact ⟨0, by omega, rfl, by show allW L wx 0; unfold allW; rfl⟩
           case round =>
             obtain ⟨k, hk, rfl, hall⟩ := hrel
             by_cases hlt : k < L.length
             · obtain ⟨bb, ob, cc2, hv, hb, hcell⟩ := HC.out (by omega)
               simp only [Value.slice.injEq] at hv
               obtain ⟨rfl, _, _⟩ := hv
               have hx : L[k]? = some L[k] := List.getElem?_eq_getElem hlt
               have r0 := hcell k _ hx
               clear hcell
               by_cases hxw : L[k] = wx
               · have HN := Lib.hid (allW_s hall.out hx hxw)
                 rw [hxw] at r0
                 have hn : (wx != wx) = false := by simp
                 clear hxw hx
                 go_wp2
                 go_round
                 case rel => exact ⟨k + 1, by omega, by go_num, HN⟩
                 case measure => simp [intOf]; omega
               · have HN : Hid (widthsR p ⟨op, d, a, b, cc, n⟩ = false) := by
                   show _ = false
                   rw [hw.out, List.all_eq_false]
                   exact ⟨_, List.getElem_mem hlt, by simpa using hxw⟩
                 generalize L[k] = x at *
                 clear hx hall
                 cases x <;> cases wx
                 case false.false | true.true => exact absurd rfl hxw
                 all_goals
                   go_wp2
                   go_ret
                   exact ⟨ret_b HN.out.symm, HF.out⟩
             · obtain rfl : k = L.length := by omega
               have HN : Hid (widthsR p ⟨op, d, a, b, cc, n⟩ = true) := by
                 show _ = true
                 rw [hw.out]
                 have := hall.out
                 unfold allW at this
                 rwa [List.take_length] at this
               go_wp2
               go_ret
               exact ⟨ret_b HN.out.symm, HF.out⟩
end Go.Proofs.Ytodmkjeankbieab


namespace Go.Proofs.Ytodmkjeankbieab
open Go.RowKit Go.Sort

theorem shape_bytes {op : Int} (h : known op = true) : ∃ l0 l1 l2 l3 l4 : UInt8, shapeS op = ⟨#[l0, l1, l2, l3, l4]⟩ ∧ ((l0.toNat : Int) != 45) = gvs op ∧ ((l1.toNat : Int) != 45) = decide (0 < many op) ∧ ((l2.toNat : Int) != 45) = decide (1 < many op) := by
 obtain ⟨l0, l1, l2, l3, l4, hls⟩ := shape_letters h
 obtain ⟨s0, s1, s2⟩ := shape_there h
 rw [hls] at s0 s1 s2
 simp only [List.getD_cons_zero, List.getD_cons_succ] at s0 s1 s2
 have hb : ∀ l : UInt8, ((l.toNat : Int) != 45) = !decide (l = 45) := by
   intro l
   have := byte_eq (l := l) (k := 45) (by decide)
   rw [bne, show ((l.toNat : Int) == 45) = ((l.toNat : Int) == ((45 : Nat) : Int)) from rfl, this]
   rfl
 refine ⟨l0, l1, l2, l3, l4, by unfold shapeS; rw [hls], ?_, ?_, ?_⟩
 · rw [hb, s0, Bool.not_not]
 · rw [hb, s1, Bool.not_not]
 · rw [hb, s2, Bool.not_not]

set_option maxHeartbeats 400000 in
set_option maxRecDepth 100000 in
theorem Gives_any (i : In) (w : World) (hk : known i.op = true) :
   Calls Try.prog 43 #[i.val] w fun e w' => e = .returned (.bool (gvs i.op)) ∧ Fr w w' := by
 obtain ⟨l0, l1, l2, l3, l4, hs, h0, h1, h2⟩ := shape_bytes hk
 have hS := Lib.hid (fun w => Shape_any i.op w)
 rw [hs] at hS
 have H0 := Lib.hid h0
 clear hk hs h0 h1 h2
 obtain ⟨op, d, a, b, cc, n⟩ := i
 unfold In.val
 simp only at hS H0 ⊢
 go_enter Try.func43, Try.ntmps43
 go_wp2_with (go_at_call 81; refine (hS.out _).mono ?_; rintro e w' ⟨rfl, rfl⟩)
 go_ret
 exact ⟨ret_b H0.out, (Kept.refl _ w).alloc _⟩

def RdI (w : World) (R : Nat → Prop) (v : Value) (l : List Int) : Prop := ∃ A c, v = .slice A l.length c ∧ Reads w R 1 A l.length (l.map (Value.int .i64))
theorem RdI.kept {w w' : World} {R S : Nat → Prop} {v : Value} {l : List Int} (h : RdI w R v l) (hk : Kept S w w') (hs : ∀ b, R b → ¬ S b) : RdI w' R v l :=
 let ⟨A, c, e, hr⟩ := h
 ⟨A, c, e, hr.kept hk hs⟩
theorem RdI.at_ {w : World} {R : Nat → Prop} {v : Value} {l : List Int} (h : RdI w R v l) {k : Nat} {x : Int} (hx : l[k]? = some x) : ∃ b off c, v = .slice (some ⟨b, off, none⟩) l.length c ∧ R b ∧ b < w.heap.size ∧ w.cell? ⟨b, off + k, none⟩ = some (.int .i64 x) := by
 obtain ⟨A, c, rfl, hr⟩ := h
 have hk : k < l.length := (List.getElem?_eq_some_iff.1 hx).1
 obtain ⟨b, off, rfl, hR, hc⟩ := hr.2 (by omega)
 have := hc k (.int .i64 x) (by rw [List.getElem?_map, hx]; rfl)
 exact ⟨b, off, c, rfl, hR, cell_lt this, this⟩
theorem RdI.of_own {w : World} {base : Nat} {v : Value} {l : List Int} (h : w.ownsRow base 3 1 v l.length (l.map (Value.int .i64))) : RdI w (fun b => base ≤ b) v l := by
 obtain ⟨A, c, hv, _, hr⟩ := own_reads h
 exact ⟨A, c, hv, hr.more (fun b hb => hb.1)⟩

theorem slInt' : SlTy Try.prog 99 3 1 8 := SlTy.mk' (z := .int .i64 0) Try.underlying99 (by kernel_rfl) rfl (by decide)

def usesTo (op a b : Int) (k : Nat) : List Int := ([a, b].take (many op)).take k
theorem usesTo_no {op a b : Int} {k : Nat} (h : ¬ k < many op) : usesTo op a b (k + 1) = usesTo op a b k := by
 unfold usesTo
 rw [List.take_take, List.take_take, Nat.min_eq_right (by omega), Nat.min_eq_right (by omega)]
theorem usesTo_yes {op a b x : Int} {k : Nat} (h : k < many op) (hx : [a, b][k]? = some x) : usesTo op a b (k + 1) = usesTo op a b k ++ [x] := by
 unfold usesTo
 rw [List.take_add_one, List.getElem?_take, if_pos h, hx]
 rfl
theorem usesTo_2 (i : In) : usesTo i.op i.a i.b 2 = uses i := by
 unfold usesTo uses
 rw [List.take_of_length_le (by simp; omega)]
theorem usesTo_len (op a b : Int) (k : Nat) : (usesTo op a b k).length ≤ 2 := by unfold usesTo; simp; omega

structure UsMem (w wr : World) (i : In) (v : Value) (l : List Int) : Prop where
 bi : Blk wr w.heap.size 45 #[.int .i64 i.op, .int .i64 i.d, .int .i64 i.a, .int .i64 i.b, .int .i64 i.c, .int .u32 i.n]
 ow : wr.ownsRow w.heap.size 3 1 v l.length (l.map (Value.int .i64))
 fr : Fr w wr

set_option maxHeartbeats 1000000 in
set_option maxRecDepth 100000 in
theorem Uses_any (i : In) (w : World) (hk : known i.op = true) :
   Calls Try.prog 53 #[i.val] w fun e w' => ∃ v, e = .returned v ∧ RdI w' (fun b => w.heap.size ≤ b) v (uses i) ∧ Fr w w' := by
 obtain ⟨l0, l1, l2, l3, l4, hs, _, h1, h2⟩ := shape_bytes hk
 have hS := Lib.hid (fun w => Shape_any i.op w)
 rw [hs] at hS
 have HU := Lib.hid (usesTo_2 i)
 have H1 := Lib.hid h1
 have H2 := Lib.hid h2
 clear hk hs h1 h2
 obtain ⟨op, d, a, b, cc, n⟩ := i
 unfold In.val
 simp only at hS H1 H2 HU ⊢
 go_enter Try.func53, Try.ntmps53
 go_wp2_with (go_at_call 81; refine (hS.out _).mono ?_; rintro e w' ⟨rfl, rfl⟩)
 go_loopw [5, 19] (fun v i wr => ∃ k : Int, (k = 0 ∨ k = 1 ∨ k = 2) ∧ i = .int .i64 k ∧ Hid (UsMem w wr ⟨op, d, a, b, cc, n⟩ v (usesTo op a b k.toNat))) (fun _ i _ => 2 - (intOf i).toNat)
 case atStart => exact ⟨0, Or.inl rfl, rfl, ⟨Blk.new w _ _, ⟨rfl, Or.inl ⟨rfl, rfl⟩⟩, (Kept.refl _ w).alloc _⟩⟩
 case round =>
   obtain ⟨k, hk, rfl, hmem⟩ := hrel
   have z0 := hmem.out.bi.lt
   have HM := Lib.hid hmem.out.bi
   have HF := Lib.hid hmem.out.fr
   rcases hk with rfl | rfl | rfl
   · have hix : ∀ w, (Instr.index 148 (.agg #[.int .i64 a, .int .i64 b]) (.int .i64 0)).run Try.prog w = .ok (.int .i64 a) w := fun _ => by kernel_rfl
     have HO := Lib.hid (show wr.ownsRow w.heap.size 3 1 u5 (usesTo op a b 0).length ((usesTo op a b 0).map (Value.int .i64)) from hmem.out.ow)
     have hll := usesTo_len op a b 0
     by_cases hm : 0 < many op
     · have hb : ((((⟨#[l0, l1, l2, l3, l4]⟩ : ByteArray)[1]'(by show 1 < 5; decide)).toNat : Int) != 45) = true := H1.out.trans (decide_eq_true hm)
       have HY := Lib.hid (usesTo_yes (op := op) (a := a) (b := b) (k := 0) (x := a) hm rfl)
       clear hm
       go_wp2_with (at_builtin
                    refine wpList_app (base := w.heap.size) _ rfl slInt' (.tmp 28) (.tmp 30) rfl u5 _ _ rfl (World.ownsRow.alloc HO.out _) (fun _ => True) _ 1 1 _ rfl (Reads.lit' (by simp) trivial rfl) ?_ ?_ ?_ ?_ ?_
                    · simp [Value.oneCell']
                    · omega
                    · unfold maxLen; omega
                    · simp; omega
                    intro v1 w1 hown1 hk1 hat1)
       have HB1 := Lib.hid (Blk.kept (HM.out.alloc _) hk1 (own_blk_ne HO.out HM.out (by decide)))
       have HF1 := Lib.hid (Kept.app (HF.out.alloc _) (World.ownsRow.alloc HO.out _) hk1)
       have HO1 : Hid (w1.ownsRow w.heap.size 3 1 v1 (usesTo op a b 1).length ((usesTo op a b 1).map (Value.int .i64))) := by
         show World.ownsRow _ _ _ _ _ _ _
         rw [HY.out, List.length_append, List.map_append]
         exact hown1
       clear hown1 hk1 hat1
       go_wp2
       go_roundw
       case rel => exact ⟨1, Or.inr (Or.inl rfl), rfl, ⟨HB1.out, HO1.out, HF1.out⟩⟩
       case measure => simp [intOf]
     · have hb : ((((⟨#[l0, l1, l2, l3, l4]⟩ : ByteArray)[1]'(by show 1 < 5; decide)).toNat : Int) != 45) = false := H1.out.trans (decide_eq_false hm)
       have HY := Lib.hid (usesTo_no (op := op) (a := a) (b := b) (k := 0) hm)
       clear hm
       go_wp2
       go_roundw
       case rel => exact ⟨1, Or.inr (Or.inl rfl), rfl, ⟨HM.out, by show World.ownsRow _ _ _ _ _ (usesTo op a b 1).length ((usesTo op a b 1).map _); rw [HY.out]; exact HO.out, HF.out⟩⟩
       case measure => simp [intOf]
   · have hix : ∀ w, (Instr.index 148 (.agg #[.int .i64 a, .int .i64 b]) (.int .i64 1)).run Try.prog w = .ok (.int .i64 b) w := fun _ => by kernel_rfl
     have HO := Lib.hid (show wr.ownsRow w.heap.size 3 1 u5 (usesTo op a b 1).length ((usesTo op a b 1).map (Value.int .i64)) from hmem.out.ow)
     have hll := usesTo_len op a b 1
     by_cases hm : 1 < many op
     · have hb : ((((⟨#[l0, l1, l2, l3, l4]⟩ : ByteArray)[2]'(by show 2 < 5; decide)).toNat : Int) != 45) = true := H2.out.trans (decide_eq_true hm)
       have HY := Lib.hid (usesTo_yes (op := op) (a := a) (b := b) (k := 1) (x := b) hm rfl)
       clear hm
       go_wp2_with (at_builtin
                    refine wpList_app (base := w.heap.size) _ rfl slInt' (.tmp 28) (.tmp 30) rfl u5 _ _ rfl (World.ownsRow.alloc HO.out _) (fun _ => True) _ 1 1 _ rfl (Reads.lit' (by simp) trivial rfl) ?_ ?_ ?_ ?_ ?_
                    · simp [Value.oneCell']
                    · omega
                    · unfold maxLen; omega
                    · simp; omega
                    intro v1 w1 hown1 hk1 hat1)
       have HB1 := Lib.hid (Blk.kept (HM.out.alloc _) hk1 (own_blk_ne HO.out HM.out (by decide)))
       have HF1 := Lib.hid (Kept.app (HF.out.alloc _) (World.ownsRow.alloc HO.out _) hk1)
       have HO1 : Hid (w1.ownsRow w.heap.size 3 1 v1 (usesTo op a b 2).length ((usesTo op a b 2).map (Value.int .i64))) := by
         show World.ownsRow _ _ _ _ _ _ _
         rw [HY.out, List.length_append, List.map_append]
         exact hown1
       clear hown1 hk1 hat1
       go_wp2
       go_roundw
       case rel => exact ⟨2, Or.inr (Or.inr rfl), rfl, ⟨HB1.out, HO1.out, HF1.out⟩⟩
       case measure => simp [intOf]
     · have hb : ((((⟨#[l0, l1, l2, l3, l4]⟩ : ByteArray)[2]'(by show 2 < 5; decide)).toNat : Int) != 45) = false := H2.out.trans (decide_eq_false hm)
       have HY := Lib.hid (usesTo_no (op := op) (a := a) (b := b) (k := 1) hm)
       clear hm
       go_wp2
       go_roundw
       case rel => exact ⟨2, Or.inr (Or.inr rfl), rfl, ⟨HM.out, by show World.ownsRow _ _ _ _ _ (usesTo op a b 2).length ((usesTo op a b 2).map _); rw [HY.out]; exact HO.out, HF.out⟩⟩
       case measure => simp [intOf]
   · go_wp2
     go_ret
     have h2 : wr.ownsRow w.heap.size 3 1 u5 (usesTo op a b 2).length ((usesTo op a b 2).map (Value.int .i64)) := hmem.out.ow
     rw [show usesTo op a b 2 = uses ⟨op, d, a, b, cc, n⟩ from HU.out] at h2
     exact ⟨_, rfl, RdI.of_own h2, HF.out⟩

theorem RdI.lit {w : World} {B g c : Nat} {e : TypeId} {l : List Int} {cs : Array Value} (hg : g = w.heap.size) (hB : B ≤ g) (hl : cs = (l.map (Value.int .i64)).toArray) : RdI (w.alloc (.cells cs e)) (fun b => B ≤ b) (.slice (some ⟨g, 0, none⟩) l.length c) l := by
 refine ⟨_, _, rfl, ?_⟩
 have := Reads.lit' (w := w) (R := fun b => B ≤ b) (e := e) (size := 1) (n := l.length) (cs := cs) hg hB (by rw [hl]; simp)
 rw [hl] at this
 simpa [hl] using this
theorem nexts_8 {op d a b c k : Int} {n : Nat} (h : (op == 8) = true) : nexts ⟨op, d, a, b, c, n⟩ k = [c] := by
 rw [beq_iff_eq] at h; unfold nexts; rw [if_pos h]
theorem nexts_9 {op d a b c k : Int} {n : Nat} (h : (op == 9) = true) : nexts ⟨op, d, a, b, c, n⟩ k = [k + 1, c] := by
 rw [beq_iff_eq] at h; subst h; rfl
theorem nexts_10 {op d a b c k : Int} {n : Nat} (h : (op == 10) = true) : nexts ⟨op, d, a, b, c, n⟩ k = [] := by
 rw [beq_iff_eq] at h; subst h; rfl
theorem nexts_o {op d a b c k : Int} {n : Nat} (h : (op == 8) = false) (h' : (op == 9) = false) (h'' : (op == 10) = false) : nexts ⟨op, d, a, b, c, n⟩ k = [k + 1] := by
 rw [beq_eq_false_iff_ne] at h h' h''; unfold nexts; rw [if_neg h, if_neg h'', if_neg h']

set_option maxRecDepth 100000 in
theorem Nexts_any (i : In) (k : Int) (w : World) (h0 : 0 ≤ k) (h1 : k ≤ 1000) :
   Calls Try.prog 84 #[i.val, .int .i64 k] w fun e w' => ∃ v, e = .returned v ∧ RdI w' (fun b => w.heap.size ≤ b) v (nexts i k) ∧ Fr w w' := by
 obtain ⟨op, d, a, b, cc, n⟩ := i
 unfold In.val
 simp only
 go_enter Try.func84, Try.ntmps84
 go_wp2
 all_goals go_ret
 · rw [nexts_8 ‹_›]
   refine ⟨_, rfl, RdI.lit (g := w.heap.size + 1) (c := 1) (l := [cc]) (cs := #[.int .i64 cc]) ?_ ?_ rfl, ((Kept.refl _ w).alloc _).alloc _⟩
   · simp
   · omega
 · rw [nexts_9 ‹_›]
   refine ⟨_, rfl, RdI.lit (g := w.heap.size + 1) (c := 2) (l := [k + 1, cc]) (cs := #[.int .i64 (k + 1), .int .i64 cc]) ?_ ?_ rfl, ((Kept.refl _ w).alloc _).alloc _⟩
   · simp
   · omega
 · rw [nexts_10 ‹_›]
   exact ⟨_, rfl, ⟨none, 0, rfl, Reads.none_⟩, (Kept.refl _ w).alloc _⟩
 · rw [nexts_o ‹_› ‹_› ‹_›]
   refine ⟨_, rfl, RdI.lit (g := w.heap.size + 1) (c := 1) (l := [k + 1]) (cs := #[.int .i64 (k + 1)]) ?_ ?_ rfl, ((Kept.refl _ w).alloc _).alloc _⟩
   · simp
   · omega

theorem nexts_r {op d a b c k : Int} {n : Nat} (h : (op == 8) = false) (h'' : (op == 10) = false) (h' : (op == 9) = false) : nexts ⟨op, d, a, b, c, n⟩ k = [k + 1] := nexts_o h h' h''
set_option maxRecDepth 100000 in
theorem refNexts_any (i : In) (k : Int) (w : World) (h0 : 0 ≤ k) (h1 : k ≤ 1000) :
   Calls Try.prog 88 #[i.val, .int .i64 k] w fun e w' => ∃ v, e = .returned v ∧ RdI w' (fun b => w.heap.size ≤ b) v (nexts i k) ∧ Fr w w' := by
 obtain ⟨op, d, a, b, cc, n⟩ := i
 unfold In.val
 simp only
 go_enter Try.func88, Try.ntmps88
 go_wp2
 all_goals go_ret
 · rw [nexts_8 ‹_›]
   refine ⟨_, rfl, RdI.lit (g := w.heap.size + 1) (c := 1) (l := [cc]) (cs := #[.int .i64 cc]) ?_ ?_ rfl, ((Kept.refl _ w).alloc _).alloc _⟩
   · simp
   · omega
 · rw [nexts_10 ‹_›]
   exact ⟨_, rfl, ⟨none, 0, rfl, Reads.none_⟩, (Kept.refl _ w).alloc _⟩
 · rw [nexts_9 ‹_›]
   refine ⟨_, rfl, RdI.lit (g := w.heap.size + 1) (c := 2) (l := [k + 1, cc]) (cs := #[.int .i64 (k + 1), .int .i64 cc]) ?_ ?_ rfl, ((Kept.refl _ w).alloc _).alloc _⟩
   · simp
   · omega
 · rw [nexts_r ‹_› ‹_› ‹_›]
   refine ⟨_, rfl, RdI.lit (g := w.heap.size + 1) (c := 1) (l := [k + 1]) (cs := #[.int .i64 (k + 1)]) ?_ ?_ rfl, ((Kept.refl _ w).alloc _).alloc _⟩
   · simp
   · omega
end Go.Proofs.Ytodmkjeankbieab


namespace Go.Proofs.Ytodmkjeankbieab
open Go.RowKit Go.Sort

def mkB (n : Nat) (f : Nat → Bool) : Array Value := ((List.range n).map fun t => Value.bool (f t)).toArray
theorem mkB_at {n : Nat} {f : Nat → Bool} {t : Nat} (h : t < n) : (mkB n f)[t]? = some (.bool (f t)) := by
 unfold mkB
 simp [List.getElem?_range h]
theorem mkB_set {n : Nat} {f : Nat → Bool} {t : Nat} {x : Bool} : (mkB n f).setIfInBounds t (.bool x) = mkB n (fun s => if s = t then x else f s) := by
 unfold mkB
 rw [List.setIfInBounds_toArray]
 congr 1
 apply List.ext_getElem
 · simp
 · intro i h1 h2
   simp at h1
   rw [List.getElem_set]
   by_cases h : t = i
   · subst h; simp
   · rw [if_neg h]
     simp
     intro e; exact absurd e.symm h
theorem mkB_congr {n : Nat} {f g : Nat → Bool} (h : ∀ t, t < n → f t = g t) : mkB n f = mkB n g := by
 unfold mkB
 congr 1
 apply List.map_congr_left
 intro t ht
 rw [h t (List.mem_range.1 ht)]
theorem made_mkB (n : Nat) : madeCells #[.bool false] n = mkB n (fun _ => false) := by
 unfold mkB
 apply Array.ext_getElem?
 intro i
 unfold madeCells
 rcases Nat.lt_or_ge i n with h | h
 · simp [List.getElem?_range h, h, Nat.mod_one]
 · simp [List.getElem?_eq_none, h, Nat.not_lt.2 h]
theorem mkB_list (n : Nat) (f : Nat → Bool) : (mkB n f).toList = ((List.range n).map f).map Value.bool := by unfold mkB; simp

theorem Blk.bcell {w : World} {g : Nat} {e : TypeId} {n : Nat} {f : Nat → Bool} (h : Blk w g e (mkB n f)) {t : Nat} (ht : t < n) : w.cell? ⟨g, t, none⟩ = some (.bool (f t)) := by
 rw [h.cell, mkB_at ht]
theorem Blk.bset {w : World} {g : Nat} {e : TypeId} {n : Nat} {f : Nat → Bool} (h : Blk w g e (mkB n f)) (t : Nat) (x : Bool) : Blk (w.setCell ⟨g, t, none⟩ (.bool x)) g e (mkB n fun s => if s = t then x else f s) := by
 have := h.set_ t (.bool x)
 rwa [mkB_set] at this
theorem RdBo.of_blk {w : World} {g : Nat} {e : TypeId} {n c : Nat} {f : Nat → Bool} {R : Nat → Prop} (h : Blk w g e (mkB n f)) (hR : R g) (hn : n ≤ maxLen) : RdBo w R (.slice (some ⟨g, 0, none⟩) n c) ((List.range n).map f) := by
 refine ⟨some ⟨g, 0, none⟩, c, by simp, by simpa using hn, by simp, fun _ => ⟨g, 0, rfl, hR, fun j u hu => ?_⟩⟩
 rw [Nat.zero_add, h.cell, ← hu, ← mkB_list]
 simp

def RdM (w : World) (R : Nat → Prop) (v : Value) (M : List (List Bool)) : Prop :=
 ∃ (A : Option Addr) (c : Nat) (vs : List Value), v = .slice A M.length c ∧ M.length ≤ maxLen ∧ Reads w R 1 A M.length vs ∧ ∀ (k : Nat) (row : List Bool), M[k]? = some row → ∃ u, vs[k]? = some u ∧ RdBo w R u row
theorem RdM.kept {w w' : World} {R S : Nat → Prop} {v : Value} {M : List (List Bool)} (h : RdM w R v M) (hk : Kept S w w') (hs : ∀ b, R b → ¬ S b) : RdM w' R v M := by
 obtain ⟨A, c, vs, e, hl, hr, hrow⟩ := h
 refine ⟨A, c, vs, e, hl, hr.kept hk hs, fun k row hk' => ?_⟩
 obtain ⟨u, h1, h2⟩ := hrow k row hk'
 exact ⟨u, h1, h2.kept hk hs⟩
theorem RdM.row {w : World} {R : Nat → Prop} {v : Value} {M : List (List Bool)} (h : RdM w R v M) {k : Nat} {row : List Bool} (hk : M[k]? = some row) :
   ∃ b off c u, v = .slice (some ⟨b, off, none⟩) M.length c ∧ R b ∧ b < w.heap.size ∧ w.cell? ⟨b, off + k, none⟩ = some u ∧ RdBo w R u row := by
 obtain ⟨A, c, vs, e, hl, hr, hrow⟩ := h
 have hkl : k < M.length := (List.getElem?_eq_some_iff.1 hk).1
 obtain ⟨b, off, rfl, hR, hc⟩ := hr.2 (by omega)
 obtain ⟨u, h1, h2⟩ := hrow k row hk
 have := hc k u h1
 exact ⟨b, off, c, u, e, hR, cell_lt this, this, h2⟩
theorem RdBo.at_ {w : World} {R : Nat → Prop} {v : Value} {l : List Bool} (h : RdBo w R v l) {k : Nat} {x : Bool} (hx : l[k]? = some x) : ∃ b off c, v = .slice (some ⟨b, off, none⟩) l.length c ∧ R b ∧ b < w.heap.size ∧ w.cell? ⟨b, off + k, none⟩ = some (.bool x) := by
 obtain ⟨A, c, rfl, _, hr⟩ := h
 have hk : k < l.length := (List.getElem?_eq_some_iff.1 hx).1
 obtain ⟨b, off, rfl, hR, hc⟩ := hr.2 (by omega)
 have := hc k (.bool x) (by rw [List.getElem?_map, hx]; rfl)
 exact ⟨b, off, c, rfl, hR, cell_lt this, this⟩
theorem RdBo.val {w : World} {R : Nat → Prop} {v : Value} {l : List Bool} (h : RdBo w R v l) : ∃ A c, v = .slice A l.length c := let ⟨A, c, e, _⟩ := h; ⟨A, c, e⟩
theorem RdM.val {w : World} {R : Nat → Prop} {v : Value} {l : List (List Bool)} (h : RdM w R v l) : ∃ A c, v = .slice A l.length c := let ⟨A, c, _, e, _⟩ := h; ⟨A, c, e⟩
theorem RdI.val {w : World} {R : Nat → Prop} {v : Value} {l : List Int} (h : RdI w R v l) : ∃ A c, v = .slice A l.length c := let ⟨A, c, e, _⟩ := h; ⟨A, c, e⟩

theorem infoBool : (Try.prog.info? 4).map (fun i => (i.zero, i.size, i.bytes)) = some (some (.bool false), 1, 1) := by kernel_rfl
theorem run_make_bools (n : Nat) (h : n ≤ 1000000) (w : World) : (Instr.makeSlice 22 (.int .i64 (n : Int)) (.int .i64 (n : Int))).run Try.prog w = .ok (.slice (some ⟨w.heap.size, 0, none⟩) n n) (w.alloc (.cells (mkB n fun _ => false) 4)) := by
 rw [← made_mkB]
 exact run_make_row' 22 4 (.bool false) 1 Try.underlying22 infoBool rfl .i64 .i64 n (by omega) (by omega) w
end Go.Proofs.Ytodmkjeankbieab

