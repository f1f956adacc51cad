/- Texts of this claim, packed. -/
import Derived.Test.YtodmkjeankbieaaGreatDoorKAllk6
set_option linter.all false
namespace Go.Proofs.YtodmkjeankbieaaGreatDoor
open Go.RowKit Go.Sort Go.Maps

def Fc.cells (f : Fc) : Array Value := #[.int .i64 f.pl.k, .int .i64 f.pl.n, .bool f.temp, .int .i64 f.t, .int .u32 f.n]
def Fc.val (f : Fc) : Value := .agg #[.int .i64 f.pl.k, .int .i64 f.pl.n, .bool f.temp, .int .i64 f.t, .int .u32 f.n]
structure Fc.ok (f : Fc) : Prop where
 k : inI f.pl.k
 n : inI f.pl.n
 t : inI f.t
 m : f.n < 4294967296
def Fc.lits (f : Fc) : List Lit := [.int .i64 f.pl.k, .int .i64 f.pl.n, .bool f.temp, .int .i64 f.t, .int .u32 f.n]
def Fc.lit (f : Fc) : Lit := .string (keyBytes f.lits)

theorem Fc.val_inj (f g : Fc) (h : f.val = g.val) : f = g := by
 obtain ⟨⟨k, n⟩, b, t, m⟩ := f
 obtain ⟨⟨k', n'⟩, b', t', m'⟩ := g
 simp only [Fc.val, Value.agg.injEq, Array.mk.injEq, List.cons.injEq, Value.int.injEq, Value.bool.injEq, true_and, and_true] at h
 obtain ⟨rfl, rfl, rfl, rfl, h⟩ := h
 have : m = m' := by omega
 subst this; rfl

theorem wf_i64 {n : Int} (h : inI n) : (Lit.int .i64 n).wf = true := by
 unfold inI at h
 simp [Lit.wf, IntKind.min, IntKind.max, IntKind.bits, IntKind.signed]
 omega
theorem wf_u32 {n : Nat} (h : n < 4294967296) : (Lit.int .u32 (n : Int)).wf = true := by
 simp [Lit.wf, IntKind.min, IntKind.max, IntKind.bits, IntKind.signed]
 omega

section
variable {P : Program} {d : Nat}
theorem int_lits {t : TypeId} (hu : P.underlying t = some (.int .i64)) {n : Int} (h : inI n) : P.keyLits (d + 1) t [.int .i64 n] = some [.int .i64 n] := by
 unfold Program.keyLits
 rw [hu]; simp [wf_i64 h]
theorem u32_lits {t : TypeId} (hu : P.underlying t = some (.int .u32)) {n : Nat} (h : n < 4294967296) : P.keyLits (d + 1) t [.int .u32 (n : Int)] = some [.int .u32 (n : Int)] := by
 unfold Program.keyLits
 rw [hu]; simp [wf_u32 h]
theorem bool_lits {t : TypeId} (hu : P.underlying t = some .bool) {b : Bool} : P.keyLits (d + 1) t [.bool b] = some [.bool b] := by
 unfold Program.keyLits
 rw [hu]
theorem int_inv {t : TypeId} (hu : P.underlying t = some (.int .i64)) {x : Value} {L : List Lit} (h : P.keyLits (d + 1) t [x] = some L) : ∃ n, inI n ∧ x = .int .i64 n ∧ L = [.int .i64 n] := by
 unfold Program.keyLits at h
 rw [hu] at h
 cases x <;> simp at h
 obtain ⟨⟨rfl, h1⟩, rfl⟩ := h
 refine ⟨_, ?_, rfl, rfl⟩
 simp [Lit.wf, IntKind.min, IntKind.max, IntKind.bits, IntKind.signed] at h1
 unfold inI; omega
theorem bool_inv {t : TypeId} (hu : P.underlying t = some .bool) {x : Value} {L : List Lit} (h : P.keyLits (d + 1) t [x] = some L) : ∃ b, x = .bool b ∧ L = [.bool b] := by
 unfold Program.keyLits at h
 rw [hu] at h
 cases x <;> simp at h
 exact ⟨_, rfl, h.symm⟩
theorem u32_inv {t : TypeId} (hu : P.underlying t = some (.int .u32)) {x : Value} {L : List Lit} (h : P.keyLits (d + 1) t [x] = some L) : ∃ n : Nat, n < 4294967296 ∧ x = .int .u32 n ∧ L = [.int .u32 n] := by
 unfold Program.keyLits at h
 rw [hu] at h
 cases x <;> simp at h
 rename_i n
 obtain ⟨⟨rfl, h1⟩, rfl⟩ := h
 simp [Lit.wf, IntKind.min, IntKind.max, IntKind.bits, IntKind.signed] at h1
 have e : ((n.toNat : Nat) : Int) = n := by omega
 exact ⟨n.toNat, by omega, by rw [e], by rw [e]⟩
theorem five {l : List Value} (h : l.length = 5) : ∃ a b c d e, l = [a, b, c, d, e] := by
 match l, h with
 | [a, b, c, d, e], _ => exact ⟨a, b, c, d, e, rfl⟩
structure FactTys (P : Program) (K L I B U : TypeId) (fs ps : Array Field) : Prop where
 hK : P.underlying K = some (.struct fs)
 hL : P.underlying L = some (.struct ps)
 hI : P.underlying I = some (.int .i64)
 hB : P.underlying B = some .bool
 hU : P.underlying U = some (.int .u32)
 cK : P.cellsOf K = 5
 cL : P.cellsOf L = 2
 cI : P.cellsOf I = 1
 cB : P.cellsOf B = 1
 cU : P.cellsOf U = 1
 nK : fs.all (·.name != "_") = true
 nL : ps.all (·.name != "_") = true
 fK : fs.toList.map (fun f => (f.type, f.offset)) = [(L, 0), (B, 2), (I, 3), (U, 4)]
 fL : ps.toList.map (fun f => (f.type, f.offset)) = [(I, 0), (I, 1)]
 kt : P.keyType K = true
variable {K L I B U : TypeId} {fs ps : Array Field}
theorem mapM_ty {f : TypeId → Nat → Option (List Lit)} : ∀ l : List Field, (l.mapM fun x => f x.type x.offset) = (l.map fun x => (x.type, x.offset)).mapM fun x => f x.1 x.2
 | [] => rfl
 | x :: l => by rw [List.mapM_cons, List.map_cons, List.mapM_cons, mapM_ty l]
theorem place_lits (h : FactTys P K L I B U fs ps) (a b : Value) : P.keyLits (d + 2) L [a, b] = (P.keyLits (d + 1) I [a]).bind fun x => (P.keyLits (d + 1) I [b]).bind fun y => some (x ++ y) := by
 conv => lhs; unfold Program.keyLits
 rw [h.hL]
 simp only [h.cL, h.nL, List.length_cons, List.length_nil, and_self, if_true]
 rw [mapM_ty (f := fun t o => P.keyLits (d + 1) t ((List.drop o [a, b]).take (P.cellsOf t))), h.fL]
 simp [h.cI]
 all_goals (cases P.keyLits (d + 1) I [a] <;> try simp)
 all_goals (cases P.keyLits (d + 1) I [b] <;> try simp)
theorem fact_lits_any (h : FactTys P K L I B U fs ps) (a b c t n : Value) : P.keyLits (d + 3) K [a, b, c, t, n] = (P.keyLits (d + 1) I [a]).bind fun x => (P.keyLits (d + 1) I [b]).bind fun y => (P.keyLits (d + 2) B [c]).bind fun z => (P.keyLits (d + 2) I [t]).bind fun u => (P.keyLits (d + 2) U [n]).bind fun v => some (x ++ y ++ z ++ u ++ v) := by
 conv => lhs; unfold Program.keyLits
 rw [h.hK]
 simp only [h.cK, h.nK, List.length_cons, List.length_nil, and_self, if_true]
 rw [mapM_ty (f := fun ty o => P.keyLits (d + 2) ty ((List.drop o [a, b, c, t, n]).take (P.cellsOf ty))), h.fK]
 simp [h.cL, h.cB, h.cI, h.cU, place_lits h]
 all_goals (cases P.keyLits (d + 1) I [a] <;> try simp)
 all_goals (cases P.keyLits (d + 1) I [b] <;> try simp)
 all_goals (cases P.keyLits (d + 2) B [c] <;> try simp)
 all_goals (cases P.keyLits (d + 2) I [t] <;> try simp)
 all_goals (cases P.keyLits (d + 2) U [n] <;> try simp)
theorem fact_key_any (h : FactTys P K L I B U fs ps) (hs : 2 ≤ P.types.size) (f : Fc) (hf : f.ok) : keyOf P K f.val = some f.lit := by
 have e : P.types.size + 1 = (P.types.size - 2) + 3 := by omega
 unfold keyOf
 rw [h.hK]
 simp only [h.kt, Bool.true_and, Fc.val, Value.formed, h.hK, h.cK, Value.cells]
 rw [e]
 simp [fact_lits_any h, int_lits h.hI hf.k, int_lits h.hI hf.n, int_lits h.hI hf.t, bool_lits h.hB, u32_lits h.hU hf.m, Fc.lit, Fc.lits]
theorem fact_inv_any (h : FactTys P K L I B U fs ps) (hs : 2 ≤ P.types.size) (v : Value) (l : Lit) (hk : keyOf P K v = some l) : ∃ f : Fc, f.ok ∧ v = f.val ∧ l = f.lit := by
 obtain ⟨xs, L', rfl, hL, rfl⟩ := keyOf_top (by rw [h.hK]) hk
 have e : P.types.size + 1 = (P.types.size - 2) + 3 := by omega
 rw [e] at hL
 generalize P.types.size - 2 = d at hL
 have hl : xs.toList.length = 5 := by
   unfold Program.keyLits at hL
   rw [h.hK] at hL
   simp only at hL
   split at hL
   · rename_i hh; rw [hh.1, h.cK]
   · cases hL
 obtain ⟨a, b, c, t, n, hxs⟩ := five hl
 rw [hxs, fact_lits_any h] at hL
 have hx : xs = #[a, b, c, t, n] := by rw [← hxs]
 subst hx
 simp only [Option.bind_eq_some_iff] at hL
 obtain ⟨x, hx, y, hy, z, hz, u, hu, v, hv, hL⟩ := hL
 obtain ⟨k1, i1, rfl, rfl⟩ := int_inv h.hI hx
 obtain ⟨k2, i2, rfl, rfl⟩ := int_inv h.hI hy
 obtain ⟨k3, rfl, rfl⟩ := bool_inv h.hB hz
 obtain ⟨k4, i4, rfl, rfl⟩ := int_inv h.hI hu
 obtain ⟨k5, i5, rfl, rfl⟩ := u32_inv h.hU hv
 cases hL
 exact ⟨⟨⟨k1, k2⟩, k3, k4, k5⟩, ⟨i1, i2, i4, i5⟩, rfl, rfl⟩
end
theorem fact_keyed : Keyed Tryz.prog 165 := Keyed.of_law (deep_law_laid (m := 3) (by kernel_rfl) (by decide) (of_decide_eq_true (by kernel_rfl)) (by kernel_rfl) (by kernel_rfl))
theorem fact_tys : ∃ fs ps, FactTys Tryz.prog 165 99 3 4 35 fs ps :=
 ⟨_, _, Tryz.underlying165, Tryz.underlying99, Tryz.underlying3, Tryz.underlying4, Tryz.underlying35, by kernel_rfl, by kernel_rfl, by kernel_rfl, by kernel_rfl, by kernel_rfl, by kernel_rfl, by kernel_rfl, by kernel_rfl, by kernel_rfl, by kernel_rfl⟩
theorem types_two : 2 ≤ Tryz.prog.types.size := of_decide_eq_true (by kernel_rfl)
theorem setTy : SetTy Tryz.prog 133 165 4 Fc.ok Fc.val Fc.lit where
 keyed := fact_keyed
 ht := Tryz.underlying133
 he := Tryz.underlying4
 hz := fun w => by rw [Tryz.zeroValue4]
 key := fun f h => let ⟨_, _, t⟩ := fact_tys; fact_key_any t types_two f h
 inv := fun v l h => let ⟨_, _, t⟩ := fact_tys; fact_inv_any t types_two v l h
 vinj := Fc.val_inj
end Go.Proofs.YtodmkjeankbieaaGreatDoor


namespace Go.Proofs.YtodmkjeankbieaaGreatDoor
open Go.RowKit Go.Sort Go.Maps

theorem over_any (a b : PlaceV) (w : World) : Calls Tryz.prog 59 #[a.val, b.val] w fun e w' => e = .returned (.bool (ovP a b)) ∧ Fr w w' :=
 (overlap_any a.k a.n b.k b.n w).mono fun _ _ ⟨h1, h2⟩ => ⟨h1, Fr.of_below h2⟩

theorem has_any (a : PlaceV) (t : Int) (w : World) : Calls Tryz.prog 82 #[a.val, .int .i64 t] w fun e w' => e = .returned (hasF a t).val ∧ Fr w w' := by
 obtain ⟨k, n⟩ := a
 unfold PlaceV.val
 go_enter Tryz.func82, Tryz.ntmps82
 go_wp2
 refine bodyPost_ret (v := (hasF ⟨k, n⟩ t).val) ?_ rfl ?_
 · simp [results, Tryz.results82, go_sem, Fc.val, hasF, isF, knF]
 · exact ⟨rfl, ((Kept.refl _ w).alloc _).alloc _⟩
theorem fis_any (a : PlaceV) (n : Nat) (w : World) : Calls Tryz.prog 83 #[a.val, .int .u32 (n : Int)] w fun e w' => e = .returned (isF a n).val ∧ Fr w w' := by
 obtain ⟨k, m⟩ := a
 unfold PlaceV.val
 go_enter Tryz.func83, Tryz.ntmps83
 go_wp2
 refine bodyPost_ret (v := (isF ⟨k, m⟩ n).val) ?_ rfl ?_
 · simp [results, Tryz.results83, go_sem, Fc.val, hasF, isF, knF]
 · exact ⟨rfl, ((Kept.refl _ w).alloc _).alloc _⟩
theorem known_any (t : Int) (n : Nat) (w : World) : Calls Tryz.prog 84 #[.int .i64 t, .int .u32 (n : Int)] w fun e w' => e = .returned (knF t n).val ∧ Fr w w' := by
 go_enter Tryz.func84, Tryz.ntmps84
 go_wp2
 refine bodyPost_ret (v := (knF t n).val) ?_ rfl ?_
 · simp [results, Tryz.results84, go_sem, Fc.val, hasF, isF, knF]
 · exact ⟨rfl, (Kept.refl _ w).alloc _⟩

theorem wd_nat {wide : List Bool} {t : Nat} {x : Bool} (h : wide[t]? = some x) : wd wide (t : Int) = x := by
 unfold wd
 rw [Int.toNat_natCast, List.getD_eq_getElem?_getD, h]; rfl
theorem may_any (R : Nat → Prop) (v : Value) (p : Pg) (a : PlaceV) (t : Nat) (w : World) (h : RdPg w R v p) (ht : t < p.wide.length) :
   Calls Tryz.prog 81 #[v, a.val, .int .i64 (t : Int)] w fun e w' => e = .returned (.bool (mayT p.wide a.k (t : Int))) ∧ Fr w w' := by
 obtain ⟨vw, vc, rfl, hb, hc⟩ := h
 have hx : p.wide[t]? = some (p.wide[t]) := List.getElem?_eq_getElem ht
 obtain ⟨b, off, c, rfl, _, hlt, hcl⟩ := hb.at_ hx
 obtain ⟨A', c', rfl, _⟩ := hc
 have hwd := wd_nat hx
 generalize p.wide[t] = x at *
 have hm : mayT p.wide a.k (t : Int) = (decide (a.k = 3) || (x == decide (a.k = 2))) := by unfold mayT; rw [hwd]
 generalize mayT p.wide a.k (t : Int) = r at *
 have hr := Lib.hid hm
 clear hm hwd hx
 generalize p.wide.length = W at *
 obtain ⟨k, n⟩ := a
 unfold PlaceV.val
 simp only at hr ⊢
 have ht0 : (0 : Int) ≤ (t : Int) := Int.natCast_nonneg _
 have ht1 : (t : Int) < (W : Int) := by omega
 have F0 := Lib.hid (show Fr w ((w.alloc (.cells #[.slice (some ⟨b, off, none⟩) W c, .slice A' p.code.length c'] 28)).alloc (.cells #[.int .i64 k, .int .i64 n] 99)) from ((Kept.refl _ w).alloc _).alloc _)
 clear hb
 generalize p.code.length = L at *
 by_cases e3 : k = 3
 · subst e3
   go_enter Tryz.func81, Tryz.ntmps81
   go_wp2
   go_quiet (fail)
   go_wp2
   go_ret
   refine ⟨?_, F0.out.drewN nq⟩
   rw [hr.out]; rfl
 · have e3' : (k == 3) = false := by simpa using e3
   by_cases e2 : k = 2
   · subst e2
     clear e3'
     go_enter Tryz.func81, Tryz.ntmps81
     go_wp2
     go_quiet (fail)
     go_wp2
     go_ret
     refine ⟨?_, F0.out.drewN nq⟩
     rw [hr.out]; cases x <;> rfl
   · have e2' : (k == 2) = false := by simpa using e2
     have hr2 : Hid (r = (x == false)) := by show _ = _; rw [hr.out, decide_eq_false e3, decide_eq_false e2]; rfl
     clear hr
     go_enter Tryz.func81, Tryz.ntmps81
     go_wp2
     go_quiet (fail)
     go_wp2
     go_ret
     refine ⟨?_, F0.out.drewN nq⟩
     rw [hr2.out]; cases x <;> rfl

def RdNs (w : World) (R : Nat → Prop) (v : Value) (ns : List Nat) : Prop := ∃ A c, v = .slice A ns.length c ∧ ns.length ≤ maxLen ∧ Reads w R 1 A ns.length (ns.map fun (n : Nat) => Value.int .u32 (n : Int))
theorem RdNs.kept {w w' : World} {R S : Nat → Prop} {v : Value} {ns : List Nat} (h : RdNs w R v ns) (hk : Kept S w w') (hs : ∀ b, R b → ¬ S b) : RdNs w' R v ns :=
 let ⟨A, c, e, hl, hr⟩ := h
 ⟨A, c, e, hl, hr.kept hk hs⟩
theorem RdNs.at_ {w : World} {R : Nat → Prop} {A : Option Addr} {ns : List Nat} (hr : Reads w R 1 A ns.length (ns.map fun (n : Nat) => Value.int .u32 (n : Int))) {k n : Nat} (hx : ns[k]? = some n) : ∃ b off, A = some ⟨b, off, none⟩ ∧ R b ∧ b < w.heap.size ∧ w.cell? ⟨b, off + k, none⟩ = some (.int .u32 (n : Int)) := by
 have hk : k < ns.length := (List.getElem?_eq_some_iff.1 hx).1
 obtain ⟨b, off, hA, hR, hc⟩ := hr.2 (by omega)
 have := hc k (.int .u32 (n : Int)) (by rw [List.getElem?_map, hx]; rfl)
 exact ⟨b, off, hA, hR, cell_lt this, this⟩
theorem index_any (R : Nat → Prop) (v : Value) (ns : List Nat) (n : Nat) (w : World) (h : RdNs w R v ns) :
   Calls Tryz.prog 80 #[v, .int .u32 (n : Int)] w fun e w' => w' = w ∧ ∃ r : Int, e = .returned (.int .i64 r) ∧ inI r ∧ (r ≥ 0 ↔ n ∈ ns) := by
 obtain ⟨A, c, rfl, hl, hr⟩ := h
 unfold maxLen at hl
 have HR := Lib.hid hr
 clear hr
 go_enter Tryz.func80, Tryz.ntmps80
 go_wp2
 go_loop [8] (fun i => ∃ k : Nat, k ≤ ns.length ∧ i = .int .i64 k ∧ Hid (∀ j, j < k → ns[j]? ≠ some n)) (fun i => ns.length - (intOf i).toNat)
 case atStart => exact ⟨0, Nat.zero_le _, rfl, fun j hj => by omega⟩
 case round =>
   obtain ⟨k, hk, rfl, hno⟩ := hrel
   by_cases hlt : k < ns.length
   · obtain ⟨x, hx⟩ : ∃ x, ns[k]? = some x := ⟨_, List.getElem?_eq_getElem hlt⟩
     obtain ⟨b, off, rfl, _, hbl, c0⟩ := RdNs.at_ HR.out hx
     have hk0 : (0 : Int) ≤ (k : Int) := Int.natCast_nonneg _
     have hk1 : (k : Int) < (ns.length : Int) := by omega
     by_cases e : n = x
     · subst e
       have HX := Lib.hid hx
       clear hx
       go_wp2
       go_ret
       exact ⟨rfl, _, rfl, by unfold inI; omega, fun _ => List.mem_of_getElem? HX.out, fun _ => by omega⟩
     · have e' : ((n : Int) == (x : Int)) = false := by rw [beq_eq_false_iff_ne]; omega
       have HN : Hid (∀ j, j < k + 1 → ns[j]? ≠ some n) := fun j hj => by
         by_cases ej : j = k
         · subst ej; rw [hx]; intro h; exact e (Option.some.inj h).symm
         · exact hno.out j (by omega)
       clear hx e
       go_wp2
       go_round
       case rel => exact ⟨k + 1, by omega, by go_num, HN⟩
       case measure => simp [intOf]; omega
   · obtain rfl : k = ns.length := by omega
     go_wp2
     go_ret
     refine ⟨rfl, -1, rfl, by unfold inI; omega, fun h => absurd h (by decide), fun h => ?_⟩
     obtain ⟨j, hj, e⟩ := List.getElem_of_mem h
     exact absurd (by rw [List.getElem?_eq_getElem hj, e]) (hno.out j hj)
theorem contains_any (R : Nat → Prop) (v : Value) (ns : List Nat) (n : Nat) (w : World) (h : RdNs w R v ns) :
   Calls Tryz.prog 63 #[v, .int .u32 (n : Int)] w fun e w' => e = .returned (.bool (decide (n ∈ ns))) ∧ w' = w := by
 have H := Lib.hid (index_any R v ns n w h)
 obtain ⟨A, c, rfl, hl, hr⟩ := h
 clear hr
 generalize hd : decide (n ∈ ns) = r
 have HD := Lib.hid hd
 clear hd
 go_enter Tryz.func63, Tryz.ntmps63
 go_wp2_with fail
 refine H.out.mono ?_
 rintro e w' ⟨rfl, x, rfl, hx, hr⟩
 have hd : Hid (decide (x ≥ 0) = r) := by show _ = _; rw [← HD.out, decide_eq_decide]; exact hr
 clear hr
 unfold inI at hx
 go_wp2
 go_ret
 exact ⟨ret_b hd.out, rfl⟩
end Go.Proofs.YtodmkjeankbieaaGreatDoor


namespace Go.Proofs.YtodmkjeankbieaaGreatDoor
open Go.RowKit Go.Sort Go.Maps

abbrev FSet (w : World) (b n : Nat) (S : FS) : Prop := SetAt Tryz.prog 165 4 Fc.ok Fc.lit w b n S
abbrev FRange (w : World) (b r n : Nat) (S L : FS) (cnt : Nat) : Prop := RangeAt Tryz.prog 165 4 Fc.ok Fc.lit w b r n S L cnt
theorem FRange.sub {w : World} {b r n cnt : Nat} {S L : FS} (h : FRange w b r n S L cnt) : ∀ x, L x → S x := let ⟨_, _, _, _, _, _, h4, _⟩ := h; h4
theorem FRange.ok {w : World} {b r n cnt : Nat} {S L : FS} (h : FRange w b r n S L cnt) : ∀ x, S x → x.ok := let ⟨_, _, _, h1, _⟩ := h; h1
def Acc (B S L : FS) (A : Fc → FS) : FS := fun y => B y ∨ ∃ g, S g ∧ ¬ L g ∧ A g y
section
variable {B S L : FS} {A : Fc → FS} {f y : Fc}
theorem Acc.start (hS : ∀ x, L x ↔ S x) : Acc B S L A y ↔ B y :=
 ⟨fun h => h.elim id fun ⟨_, h1, h2, _⟩ => absurd ((hS _).2 h1) h2, Or.inl⟩
theorem Acc.done (hl : ∀ x, ¬ L x) : Acc B S L A y ↔ (B y ∨ ∃ g, S g ∧ A g y) :=
 or_congr Iff.rfl ⟨fun ⟨g, h1, _, h3⟩ => ⟨g, h1, h3⟩, fun ⟨g, h1, h3⟩ => ⟨g, h1, hl g, h3⟩⟩
theorem Acc.step (hS : S f) : (Acc B S L A y ∨ A f y) ↔ Acc B S (fun y => L y ∧ y ≠ f) A y := by
 constructor
 · rintro ((h | ⟨g, h1, h2, h3⟩) | h)
   · exact Or.inl h
   · exact Or.inr ⟨g, h1, fun hc => h2 hc.1, h3⟩
   · exact Or.inr ⟨f, hS, fun hc => hc.2 rfl, h⟩
 · rintro (h | ⟨g, h1, h2, h3⟩)
   · exact Or.inl (Or.inl h)
   · by_cases e : g = f
     · subst e; exact Or.inr h3
     · exact Or.inl (Or.inr ⟨g, h1, fun hc => h2 ⟨hc, e⟩, h3⟩)
theorem Acc.none (hS : S f) (h : ∀ y, ¬ A f y) : Acc B S L A y ↔ Acc B S (fun y => L y ∧ y ≠ f) A y := by
 rw [← Acc.step hS]; exact ⟨Or.inl, fun hh => hh.elim id fun hh => absurd hh (h y)⟩
theorem Acc.one {z : Fc} (hS : S f) (h : ∀ y, A f y ↔ y = z) : (Acc B S L A y ∨ y = z) ↔ Acc B S (fun y => L y ∧ y ≠ f) A y := by
 rw [← Acc.step hS, h]
theorem Acc.two {z z' : Fc} (hS : S f) (h : ∀ y, A f y ↔ (y = z ∨ y = z')) : ((Acc B S L A y ∨ y = z) ∨ y = z') ↔ Acc B S (fun y => L y ∧ y ≠ f) A y := by
 rw [← Acc.step hS, h, or_assoc]
end

structure MidS (w : World) (b r o n : Nat) (S L : FS) (cnt m : Nat) (O : FS) : Prop where
 rg : FRange w b r n S L cnt
 out : FSet w o m O
 ne1 : r ≠ o
 ne2 : b ≠ o
section
variable {w w' : World} {b r o n cnt m cnt1 : Nat} {S L L1 O O' : FS}
theorem MidS.kept {X : Nat → Prop} (h : MidS w b r o n S L cnt m O) (hk : Kept X w w') (hb : ¬ X b) (hr : ¬ X r) (ho : ¬ X o) : MidS w' b r o n S L cnt m O :=
 ⟨h.rg.kept hk hb hr, h.out.kept hk ho, h.ne1, h.ne2⟩
theorem MidS.fr (h : MidS w b r o n S L cnt m O) (hk : Fr w w') : MidS w' b r o n S L cnt m O := h.kept hk (fun h => h) (fun h => h) (fun h => h)
theorem MidS.put {m' : Nat} (h : MidS w b r o n S L cnt m O) (hs : FSet w' o m' O') (hk : Kept (fun k => k = o) w w') : MidS w' b r o n S L cnt m' O' :=
 ⟨h.rg.kept hk h.ne2 h.ne1, hs, h.ne1, h.ne2⟩
theorem MidS.next (h : MidS w b r o n S L cnt m O) (hr : FRange w' b r n S L1 cnt1) (hk : Kept (fun k => k = r) w w') : MidS w' b r o n S L1 cnt1 m O :=
 ⟨hr, h.out.kept hk (fun e => h.ne1 e.symm), h.ne1, h.ne2⟩
theorem MidS.congr (h : MidS w b r o n S L cnt m O) (hs : ∀ x, O x ↔ O' x) : MidS w b r o n S L cnt m O' := ⟨h.rg, h.out.congr hs, h.ne1, h.ne2⟩
end

def WoA (a : PlaceV) (t : Int) : Fc → FS := fun g y => (g.pl.k = 0 ∨ ovP g.pl a = false) ∧ (g.temp = false ∨ g.t ≠ t) ∧ y = g
theorem wo_done {S : FS} {a : PlaceV} {t : Int} {y : Fc} : (False ∨ ∃ g, S g ∧ WoA a t g y) ↔ withoutF S a t y := by
 constructor
 · rintro (h | ⟨g, h1, h2, h3, rfl⟩)
   · exact h.elim
   · exact ⟨h1, h2, h3⟩
 · rintro ⟨h1, h2, h3⟩
   exact Or.inr ⟨y, h1, h2, h3, rfl⟩

theorem wo_one {a : PlaceV} {t : Int} {f : Fc} (h1 : f.pl.k = 0 ∨ ovP f.pl a = false) (h2 : f.temp = false ∨ f.t ≠ t) : ∀ y, WoA a t f y ↔ y = f := fun _ => ⟨fun h => h.2.2, fun h => ⟨h1, h2, h⟩⟩
theorem wo_none {a : PlaceV} {t : Int} {f : Fc} (h : ¬ ((f.pl.k = 0 ∨ ovP f.pl a = false) ∧ (f.temp = false ∨ f.t ≠ t))) : ∀ y, ¬ WoA a t f y := fun _ hh => h ⟨hh.1, hh.2.1⟩

set_option maxHeartbeats 4000000 in
set_option maxRecDepth 100000 in
theorem without_any (b n : Nat) (S : FS) (a : PlaceV) (t : Int) (w : World) (h : FSet w b n S) (hn : n < 1000000) :
   Calls Tryz.prog 101 #[.map (some b), a.val, .int .i64 t] w fun e w' => ∃ b', e = .returned (.map (some b')) ∧ FSet w' b' n (withoutF S a t) ∧ Fr w w' ∧ w.heap.size ≤ b' := by
 have hmm := @run_makeMap Tryz.prog
 have hOv := fun (x : PlaceV) (w2 : World) => over_any x a w2
 have HA := Lib.hid (show ∀ g y, WoA a t g y ↔ _ from fun _ _ => Iff.rfl)
 have zb := h.lt
 have H1 := Lib.hid (show FSet ((w.alloc (.cells #[.int .i64 a.k, .int .i64 a.n] 99)).alloc (.map #[] 0)) b n S from (h.alloc _).alloc _)
 have M1 := Lib.hid (show FSet ((w.alloc (.cells #[.int .i64 a.k, .int .i64 a.n] 99)).alloc (.map #[] 0)) (w.heap.size + 1) 0 (fun _ => False) from by
   have := SetAt.made (P := Tryz.prog) (K := 165) (E := 4) (ok := Fc.ok) (lit := Fc.lit) (w.alloc (.cells #[.int .i64 a.k, .int .i64 a.n] 99))
   simpa using this)
 have B1 := Lib.hid (show Blk ((w.alloc (.cells #[.int .i64 a.k, .int .i64 a.n] 99)).alloc (.map #[] 0)) w.heap.size 99 #[.int .i64 a.k, .int .i64 a.n] from (Blk.new w _ _).alloc _)
 have F1 := Lib.hid (show Fr w ((w.alloc (.cells #[.int .i64 a.k, .int .i64 a.n] 99)).alloc (.map #[] 0)) from ((Kept.refl _ w).alloc _).alloc _)
 have HW := Lib.hid (fun y => wo_done (S := S) (a := a) (t := t) (y := y))
 clear h
 obtain ⟨ak, an⟩ := a
 have HOv := Lib.hid hOv
 clear hOv
 generalize hQ : withoutF S ⟨ak, an⟩ t = Q at *
 clear hQ
 unfold PlaceV.val
 simp only
 go_enter Tryz.func101, Tryz.ntmps101
 go_wp2_with (first
   | (at_range; refine wpList_set_range _ rfl _ rfl setTy b n S rfl H1.out ?_; intro w0 cnt hrg hk hs hle)
   | go_in)
 have HM0 := Lib.hid (show MidS w0 b (w.heap.size + 2) (w.heap.size + 1) n S S cnt 0 (Acc (fun _ => False) S S (WoA ⟨ak, an⟩ t)) from by
   refine MidS.congr (O := fun _ => False) ⟨by simpa using hrg, M1.out.kept hk (fun h => h), by omega, by omega⟩ fun x => (Acc.start (B := fun _ => False) fun _ => Iff.rfl).symm)
 have HB0 := Lib.hid (B1.out.kept hk (fun h => h))
 have HF0 := Lib.hid (F1.out.trans hk)
 clear hrg hk hs H1 M1 B1 F1
 go_loopw [8] (fun _ wr => ∃ (L : FS) (cnt m : Nat), Hid (MidS wr b (w.heap.size + 2) (w.heap.size + 1) n S L cnt m (Acc (fun _ => False) S L (WoA ⟨ak, an⟩ t))) ∧ m + cnt ≤ n ∧ Hid (Blk wr w.heap.size 99 #[.int .i64 ak, .int .i64 an]) ∧ Hid (Fr w wr)) (fun _ wr => wr.rangeLeft b (w.heap.size + 2))
 case atStart => exact ⟨S, cnt, 0, HM0, by omega, HB0, HF0⟩
 case round =>
   obtain ⟨L, cn, m, hm, hle2, hb, hf⟩ := hrel
   clear HM0 HB0 HF0 hle
   go_wp2_with (first
     | (at_next; refine wpList_set_next _ rfl _ rfl setTy b (w.heap.size + 2) n S L cn rfl hm.out.rg ?_ ?_)
     | go_in)
   · intro _ hl0
     have HS := Lib.hid ((hm.out.out.congr fun y => (Acc.done hl0).trans (HW.out y)).mono (show m ≤ n by omega))
     go_wp2
     go_ret
     exact ⟨_, rfl, HS.out, hf.out, by omega⟩
   · intro f w1 cn1 hLf hrg1 hlt hk1 hs1 hen
     have hSf := FRange.sub hm.out.rg f hLf
     have hok := FRange.ok hm.out.rg f hSf
     have HM1 := Lib.hid (hm.out.next hrg1 hk1)
     have hb1 := hb.out.kept hk1 (by omega)
     have HF1 := Lib.hid (hf.out.then hk1 (fun i hi e => by omega))
     have HLE : Hid (wr.rangeLeft b (w.heap.size + 2) = cn) := hm.out.rg.left_eq
     clear hm hb hf hrg1 hk1 hs1
     obtain ⟨⟨fk, fn⟩, ft, tt, nn⟩ := f
     unfold Fc.val at hen
     simp only at hen
     -- the round
     have F2 := Lib.hid (show Fr w1 (w1.alloc (.cells #[.int .i64 fk, .int .i64 fn, .bool ft, .int .i64 tt, .int .u32 (nn : Int)] 165)) from (Kept.refl _ w1).alloc _)
     have B2 := Lib.hid (show Blk (w1.alloc (.cells #[.int .i64 fk, .int .i64 fn, .bool ft, .int .i64 tt, .int .u32 (nn : Int)] 165)) w1.heap.size 165 #[.int .i64 fk, .int .i64 fn, .bool ft, .int .i64 tt, .int .u32 (nn : Int)] from Blk.new w1 _ _)
     by_cases e0 : fk = 0
     · subst e0
       have HM3 := Lib.hid (HM1.out.fr F2.out)
       have hb3 := Lib.hid (hb1.kept F2.out (fun h => h))
       have hf3 := Lib.hid (HF1.out.trans F2.out)
       clear B2 F2
       cases ft with
       | false =>
         go_wp2_with (first
           | (at_mapUpdate; refine wpList_set_store _ rfl _ _ _ rfl setTy (w.heap.size + 1) m _ rfl HM3.out.out (by unfold maxLen; omega) ⟨⟨0, fn⟩, false, tt, nn⟩ rfl hok rfl ?_; intro w4 hs4 hk4; go_frame)
           | go_in)
         have HM4 := Lib.hid ((HM3.out.put hs4 hk4).congr fun y => Acc.one hSf (wo_one (Or.inl rfl) (Or.inl rfl)))
         have hb4 := Lib.hid (hb3.out.kept hk4 (by omega))
         have hf4 := Lib.hid (hf3.out.then hk4 (fun i hi e => by omega))
         go_roundw
         case rel => exact ⟨_, cn1, m + 1, HM4, by omega, hb4, hf4⟩
         case measure => rw [HM4.out.rg.left_eq, HLE.out]; exact hlt
       | true =>
         by_cases et : tt = t
         · subst et
           have HM4 := Lib.hid (HM3.out.congr fun y => Acc.none hSf (wo_none (by rintro ⟨_, h | h⟩; cases h; exact h rfl)))
           go_wp2
           go_roundw
           case rel => exact ⟨_, cn1, m, HM4, by omega, hb3, hf3⟩
           case measure => rw [HM4.out.rg.left_eq, HLE.out]; exact hlt
         · have et' : (tt != t) = true := by simpa using et
           go_wp2_with (first
             | (at_mapUpdate; refine wpList_set_store _ rfl _ _ _ rfl setTy (w.heap.size + 1) m _ rfl HM3.out.out (by unfold maxLen; omega) ⟨⟨0, fn⟩, true, tt, nn⟩ rfl hok rfl ?_; intro w4 hs4 hk4; go_frame)
             | go_in)
           have HM4 := Lib.hid ((HM3.out.put hs4 hk4).congr fun y => Acc.one hSf (wo_one (Or.inl rfl) (Or.inr et)))
           have hb4 := Lib.hid (hb3.out.kept hk4 (by omega))
           have hf4 := Lib.hid (hf3.out.then hk4 (fun i hi e => by omega))
           go_roundw
           case rel => exact ⟨_, cn1, m + 1, HM4, by omega, hb4, hf4⟩
           case measure => rw [HM4.out.rg.left_eq, HLE.out]; exact hlt
     · have e0' : (fk == 0) = false := by simpa using e0
       have c1 := hb1.cell 0
       have c2 := hb1.cell 1
       have zb1 := hb1.lt
       simp only [List.getElem?_toArray, List.getElem?_cons_succ, List.getElem?_cons_zero] at c1 c2
       go_wp2_with fail
       refine (HOv.out ⟨fk, fn⟩ _).mono ?_
       rintro e w3 ⟨rfl, f3⟩
       have HM3 := Lib.hid ((HM1.out.fr F2.out).fr f3)
       have hb3 := Lib.hid ((hb1.kept F2.out (fun h => h)).kept f3 (fun h => h))
       have hf3 := Lib.hid ((HF1.out.trans F2.out).trans f3)
       have b3 := B2.out.kept f3 (fun h => h)
       have d0 := b3.cell 0
       have d1 := b3.cell 1
       have d2 := b3.cell 2
       have d3 := b3.cell 3
       have d4 := b3.cell 4
       have zb3 := b3.lt
       simp only [List.getElem?_toArray, List.getElem?_cons_succ, List.getElem?_cons_zero] at d0 d1 d2 d3 d4
       clear f3 B2 F2 b3
       generalize hov : ovP ⟨fk, fn⟩ ⟨ak, an⟩ = r
       have HOV := Lib.hid hov
       clear hov
       cases r with
       | false =>
         cases ft with
         | false =>
           go_wp2_with (first
             | (at_mapUpdate; refine wpList_set_store _ rfl _ _ _ rfl setTy (w.heap.size + 1) m _ rfl HM3.out.out (by unfold maxLen; omega) ⟨⟨fk, fn⟩, false, tt, nn⟩ rfl hok rfl ?_; intro w4 hs4 hk4; go_frame)
             | go_in)
           have HM4 := Lib.hid ((HM3.out.put hs4 hk4).congr fun y => Acc.one hSf (wo_one (Or.inr HOV.out) (Or.inl rfl)))
           have hb4 := Lib.hid (hb3.out.kept hk4 (by omega))
           have hf4 := Lib.hid (hf3.out.then hk4 (fun i hi e => by omega))
           go_roundw
           case rel => exact ⟨_, cn1, m + 1, HM4, by omega, hb4, hf4⟩
           case measure => rw [HM4.out.rg.left_eq, HLE.out]; exact hlt
         | true =>
           by_cases et : tt = t
           · subst et
             have HM4 := Lib.hid (HM3.out.congr fun y => Acc.none hSf (wo_none (by rintro ⟨_, h | h⟩; cases h; exact h rfl)))
             go_wp2
             go_roundw
             case rel => exact ⟨_, cn1, m, HM4, by omega, hb3, hf3⟩
             case measure => rw [HM4.out.rg.left_eq, HLE.out]; exact hlt
           · have et' : (tt != t) = true := by simpa using et
             go_wp2_with (first
               | (at_mapUpdate; refine wpList_set_store _ rfl _ _ _ rfl setTy (w.heap.size + 1) m _ rfl HM3.out.out (by unfold maxLen; omega) ⟨⟨fk, fn⟩, true, tt, nn⟩ rfl hok rfl ?_; intro w4 hs4 hk4; go_frame)
               | go_in)
             have HM4 := Lib.hid ((HM3.out.put hs4 hk4).congr fun y => Acc.one hSf (wo_one (Or.inr HOV.out) (Or.inr et)))
             have hb4 := Lib.hid (hb3.out.kept hk4 (by omega))
             have hf4 := Lib.hid (hf3.out.then hk4 (fun i hi e => by omega))
             go_roundw
             case rel => exact ⟨_, cn1, m + 1, HM4, by omega, hb4, hf4⟩
             case measure => rw [HM4.out.rg.left_eq, HLE.out]; exact hlt
       | true =>
         have HM4 := Lib.hid (HM3.out.congr fun y => Acc.none hSf (wo_none (by rintro ⟨h | h, _⟩; exact e0 h; rw [HOV.out] at h; cases h)))
         go_wp2
         go_roundw
         case rel => exact ⟨_, cn1, m, HM4, by omega, hb3, hf3⟩
         case measure => rw [HM4.out.rg.left_eq, HLE.out]; exact hlt
end Go.Proofs.YtodmkjeankbieaaGreatDoor


namespace Go.Proofs.YtodmkjeankbieaaGreatDoor
open Go.RowKit Go.Sort Go.Maps

open Classical in
theorem wpList_set_lookB {P : Program} {T K E : TypeId} {α : Type} {ok : α → Prop} {val : α → Value} {lit : α → Lit} (w : World) {ops : Array Oper} {rest : List Oper} {o : Oper} {a : Act} {Q : Exit → Act → World → Prop} (hg : o.guard = none) (m x : Operand) (hop : o.op = Op.lookup T m x false)
   (hT : SetTy P T K E ok val lit) (b n : Nat) (S : α → Prop) (hm : a.eval m = .map (some b)) (h : SetAt P K E ok lit w b n S) (X : α) (hx : a.eval x = val X) (hok : ok X) (r : Bool) (hr : r = true ↔ S X) (hK : wpList P ops Q rest (a.put o.dst (.bool r)) w) : wpList P ops Q (o :: rest) a w := by
 refine wpList_set_look w hg m x hop hT b n S hm h X hx hok ?_
 have : decide (S X) = r := by rw [Bool.eq_iff_iff, hr, decide_eq_true_iff]
 rw [this]; exact hK

def MeA (S' : FS) : Fc → FS := fun g y => S' g ∧ y = g
theorem me_one {S' : FS} {f : Fc} (h : S' f) : ∀ y, MeA S' f y ↔ y = f := fun _ => ⟨fun h => h.2, fun e => ⟨h, e⟩⟩
theorem me_none {S' : FS} {f : Fc} (h : ¬ S' f) : ∀ y, ¬ MeA S' f y := fun _ hh => h hh.1
theorem me_done {S S' : FS} {y : Fc} : (False ∨ ∃ g, S g ∧ MeA S' g y) ↔ (S y ∧ S' y) := by
 constructor
 · rintro (h | ⟨g, h1, h2, rfl⟩)
   · exact h.elim
   · exact ⟨h1, h2⟩
 · rintro ⟨h1, h2⟩
   exact Or.inr ⟨y, h1, h2, rfl⟩

set_option maxHeartbeats 4000000 in
set_option maxRecDepth 100000 in
theorem meet_any (b b2 n n2 : Nat) (S S' : FS) (w : World) (h : FSet w b n S) (h2 : FSet w b2 n2 S') (hn : n < 1000000) :
   Calls Tryz.prog 66 #[.map (some b), .map (some b2)] w fun e w' => ∃ (b' : Nat) (less : Bool), e = .returned (.tuple #[.map (some b'), .bool less]) ∧ FSet w' b' n (fun f => S f ∧ S' f) ∧ (less = true ↔ ∃ f, S f ∧ ¬ S' f) ∧ Fr w w' ∧ w.heap.size ≤ b' := by
 have hmm := @run_makeMap Tryz.prog
 have zb := h.lt
 have zb2 := h2.lt
 have H1 := Lib.hid (show FSet (w.alloc (.map #[] 0)) b n S from h.alloc _)
 have H2 := Lib.hid (show FSet (w.alloc (.map #[] 0)) b2 n2 S' from h2.alloc _)
 have M1 := Lib.hid (show FSet (w.alloc (.map #[] 0)) w.heap.size 0 (fun _ => False) from SetAt.made w)
 have F1 := Lib.hid (show Fr w (w.alloc (.map #[] 0)) from (Kept.refl _ w).alloc _)
 have hsz : (w.alloc (.map #[] 0)).heap.size = w.heap.size + 1 := by simp
 clear h h2
 go_enter Tryz.func66, Tryz.ntmps66
 go_wp2_with (first
   | (at_range; refine wpList_set_range _ rfl _ rfl setTy b n S rfl H1.out ?_; intro w0 cnt hrg hk hs hle; go_frame; rw [hsz])
   | go_in)
 have HM0 := Lib.hid (show MidS w0 b (w.heap.size + 1) w.heap.size n S S cnt 0 (Acc (fun _ => False) S S (MeA S')) from by
   refine MidS.congr (O := fun _ => False) ⟨by rw [← hsz]; exact hrg, M1.out.kept hk (fun h => h), by omega, by omega⟩ fun x => (Acc.start (B := fun _ => False) fun _ => Iff.rfl).symm)
 have HB0 := Lib.hid (H2.out.kept hk (fun h => h))
 have HF0 := Lib.hid (F1.out.trans hk)
 clear hsz hrg hk hs H1 M1 H2 F1
 go_loopw [7] (fun _ wr => ∃ (L : FS) (cnt m : Nat), Hid (MidS wr b (w.heap.size + 1) w.heap.size n S L cnt m (Acc (fun _ => False) S L (MeA S'))) ∧ m + cnt ≤ n ∧ Hid (FSet wr b2 n2 S') ∧ Hid (Fr w wr)) (fun _ wr => wr.rangeLeft b (w.heap.size + 1))
 case atStart => exact ⟨S, cnt, 0, HM0, by omega, HB0, HF0⟩
 case round =>
   obtain ⟨L, cn, m, hm, hle2, hb, hf⟩ := hrel
   clear HM0 HB0 HF0 hle
   go_wp2_with (first
     | (at_next; refine wpList_set_next _ rfl _ rfl setTy b (w.heap.size + 1) n S L cn rfl hm.out.rg ?_ ?_)
     | go_in)
   · intro _ hl0
     have HS := hm.out.out.congr fun y => (Acc.done (B := fun _ => False) hl0).trans (me_done (S := S) (S' := S') (y := y))
     obtain ⟨c1, k1, l1, s1, g1⟩ := HS.card setTy
     obtain ⟨c2, k2, l2, s2, g2⟩ := hm.out.rg.set.card setTy
     have hless : Hid (decide (c1 < c2) = true ↔ ∃ f, S f ∧ ¬ S' f) := by
       show _ ↔ _
       rw [decide_eq_true_eq, k1.lt_iff k2 (fun x hx => hx.1)]
       exact ⟨fun ⟨x, h1, h2⟩ => ⟨x, h1, fun hc => h2 ⟨h1, hc⟩⟩, fun ⟨x, h1, h2⟩ => ⟨x, h1, fun hc => h2 hc.2⟩⟩
     have HS1 := Lib.hid (s1.mono (show c1 ≤ n by omega))
     clear k1 k2 HS s1 s2
     go_wp2
     go_ret2
     exact ⟨_, decide (c1 < c2), rfl, HS1.out, hless.out, hf.out, Nat.le_refl _⟩
   · intro f w1 cn1 hLf hrg1 hlt hk1 hs1 hen
     have hSf := FRange.sub hm.out.rg f hLf
     have hok := FRange.ok hm.out.rg f hSf
     have HM1 := hm.out.next hrg1 hk1
     have hb1 := hb.out.kept hk1 (by omega)
     have HF1 := hf.out.then hk1 (fun i hi e => by omega)
     have HLE : Hid (wr.rangeLeft b (w.heap.size + 1) = cn) := hm.out.rg.left_eq
     clear hm hb hf hrg1 hk1 hs1
     have F2 : Fr w1 (w1.alloc (.cells f.cells 165)) := (Kept.refl _ w1).alloc _
     have HM3 := Lib.hid (HM1.fr F2)
     have hb3 := Lib.hid (hb1.kept F2 (fun h => h))
     have hf3 := Lib.hid (HF1.trans F2)
     clear F2 HM1 hb1 HF1
     by_cases hS : S' f
     · have HM5 := fun y => Acc.one (B := fun _ => False) (L := L) (y := y) hSf (me_one hS)
       have HM6 := Lib.hid HM5
       clear HM5
       obtain ⟨⟨fk, fn⟩, ft, tt, nn⟩ := f
       unfold Fc.cells at HM3 hb3 hf3
       unfold Fc.val at hen
       simp only at hen HM3 hb3 hf3
       go_wp2_with (first
         | (at_lookup; refine wpList_set_lookB _ rfl _ _ rfl setTy b2 n2 S' rfl hb3.out ⟨⟨fk, fn⟩, ft, tt, nn⟩ rfl hok true (iff_of_true rfl hS) ?_; go_frame)
         | (at_mapUpdate; refine wpList_set_store _ rfl _ _ _ rfl setTy w.heap.size m _ rfl HM3.out.out (by unfold maxLen; omega) ⟨⟨fk, fn⟩, ft, tt, nn⟩ rfl hok rfl ?_; intro w4 hs4 hk4; go_frame)
         | go_in)
       have HM4 := Lib.hid ((HM3.out.put hs4 hk4).congr HM6.out)
       have hb4 := Lib.hid (hb3.out.kept hk4 (by omega))
       have hf4 := Lib.hid (hf3.out.then hk4 (fun i hi e => by omega))
       go_roundw
       case rel => exact ⟨_, cn1, m + 1, HM4, by omega, hb4, hf4⟩
       case measure => rw [HM4.out.rg.left_eq, HLE.out]; exact hlt
     · have HM4 := Lib.hid (HM3.out.congr fun y => Acc.none (B := fun _ => False) (L := L) (y := y) hSf (me_none hS))
       clear HM3
       obtain ⟨⟨fk, fn⟩, ft, tt, nn⟩ := f
       unfold Fc.cells at HM4 hb3 hf3
       unfold Fc.val at hen
       simp only at hen HM4 hb3 hf3
       go_wp2_with (first
         | (at_lookup; refine wpList_set_lookB _ rfl _ _ rfl setTy b2 n2 S' rfl hb3.out ⟨⟨fk, fn⟩, ft, tt, nn⟩ rfl hok false (iff_of_false (by decide) hS) ?_; go_frame)
         | go_in)
       go_roundw
       case rel => exact ⟨_, cn1, m, HM4, by omega, hb3, hf3⟩
       case measure => rw [HM4.out.rg.left_eq, HLE.out]; exact hlt
end Go.Proofs.YtodmkjeankbieaaGreatDoor

