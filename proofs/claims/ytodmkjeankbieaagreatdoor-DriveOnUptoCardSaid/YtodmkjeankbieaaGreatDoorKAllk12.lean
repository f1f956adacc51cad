/- Texts of this claim, packed. -/
import Derived.Test.YtodmkjeankbieaaGreatDoorKAllk11
import Derived.Deep.Slices
set_option linter.all false
namespace Go.Proofs.YtodmkjeankbieaaGreatDoor
open Go.RowKit Go.Sort Go.Maps

open Classical in
theorem SetAt.lookB {P : Program} {T K E : TypeId} {α : Type} {ok : α → Prop} {val : α → Value} {lit : α → Lit} (hT : SetTy P T K E ok val lit) {w : World} {b n : Nat} {S : α → Prop} (h : SetAt P K E ok lit w b n S) {x : α} (hx : ok x) (r : Bool) (hr : r = true ↔ S x) :
   (Instr.lookup T (.map (some b)) (val x) false).run P w = .ok (.bool r) w := by
 rw [h.look hT hx]
 have : decide (S x) = r := by rw [Bool.eq_iff_iff, hr, decide_eq_true_iff]
 rw [this]
structure FCnd (p : Pg) (sg sl : Nat) (ns : List Nat) : Prop where
 ns : ∀ n, n ∈ ns ↔ NumIn p n
 w1 : 1 ≤ p.wide.length
 w : p.wide.length ≤ 12
 c1 : 1 ≤ p.code.length
 c : p.code.length ≤ 40
 s : sg ≤ 16
 l : sl ≤ 12
theorem movesF_take {p : Pg} {S : FS} {l : List Mv} {k : Nat} {m : Mv} (h : l[k]? = some m) : movesF p S (l.take (k + 1)) = moveF p (movesF p S (l.take k)) m := by
 unfold movesF
 rw [List.take_add_one, h, List.foldl_append]; rfl

def MovesPost (w : World) (b : Nat) (Q : FS) (e : Ending) (w' : World) : Prop := ∃ b', e = .returned (.map (some b')) ∧ FSet w' b' 2400 Q ∧ Fr w w' ∧ (b' = b ∨ w.heap.size ≤ b')

set_option maxHeartbeats 8000000 in
set_option maxRecDepth 100000 in
theorem fmoves_any (gw : Nat) (R R' : Nat → Prop) (p : Pg) (sg sl : Nat) (ns : List Nat) (A : Option Addr) (c : Nat) (A' : Option Addr) (c' : Nat) (vp : Value) (An : Option Addr) (cn : Nat) (b : Nat) (S : FS) (v : Value) (l : List Mv) (w : World)
   (hW : FWd w gw R p sg sl ns A c A' c' vp An cn) (h : FSet w b 2400 S) (hu : InU p sg sl S) (hC : FCnd p sg sl ns) (hv : RdMv w R' v l) (hm : ∀ m ∈ l, mvB sg sl m = true ∧ m.n < 4294967296) (hR : ∀ x, R x → x < w.heap.size) :
   Calls Tryz.prog 85 #[.pointer (some ⟨gw, 0, none⟩), .map (some b), v] w (MovesPost w b (movesF p S l)) := by
 obtain ⟨A9, c9, rfl, hl, hr, _⟩ := hv
 unfold maxLen at hl
 have zg := hW.wb.lt
 have HR9 := Lib.hid hr
 have HW0 := Lib.hid hW
 have HS0 := Lib.hid h
 have HU := Lib.hid hu
 have HC := Lib.hid hC
 have HM := Lib.hid hm
 have HRR := Lib.hid hR
 have HDEF : Hid (∀ (e : Ending) (w' : World), (∃ b', e = .returned (.map (some b')) ∧ FSet w' b' 2400 (movesF p S l) ∧ Fr w w' ∧ (b' = b ∨ w.heap.size ≤ b')) → MovesPost w b (movesF p S l) e w') := fun _ _ h => h
 clear hr hW h hu hC hm hR
 go_enter Tryz.func85, Tryz.ntmps85
 go_wp2
 go_loopw [1, 11] (fun s i wr => ∃ k b' : Nat, k ≤ l.length ∧ s = .map (some b') ∧ i = .int .i64 k ∧ Hid (FSet wr b' 2400 (movesF p S (l.take k))) ∧ Hid (Fr w wr) ∧ (b' = b ∨ w.heap.size ≤ b')) (fun _ i _ => l.length - (intOf i).toNat)
 case atStart => exact ⟨0, b, Nat.zero_le _, rfl, rfl, HS0, Lib.hid (Kept.refl _ w), Or.inl rfl⟩
 case round =>
   obtain ⟨k, b', hk, rfl, rfl, hs, hf, hb⟩ := hrel
   by_cases hlt : k < l.length
   · obtain ⟨m, hx⟩ : ∃ m, l[k]? = some m := ⟨_, List.getElem?_eq_getElem hlt⟩
     obtain ⟨b3, o3, rfl, _, c0, c1, c2, c3, c4, c5⟩ := (HR9.out.kept hf.out (fun _ _ h => h)).mv hx
     have hbl := cell_lt c0
     have hmv := HM.out m (List.mem_of_getElem? hx)
     have HT : Hid (movesF p S (l.take (k + 1)) = moveF p (movesF p S (l.take k)) m) := movesF_take hx
     have hin := movesF_in (p := p) (sg := sg) (sl := sl) (l.take k) HU.out (fun x hx => (HM.out x (List.mem_of_mem_take hx)).1)
     have F8 : Fr wr (wr.alloc (.cells #[.int .i64 m.to.k, .int .i64 m.to.n, .int .i64 m.fr.k, .int .i64 m.fr.n, .bool m.c, .int .u32 (m.n : Int)] 141)) := (Kept.refl _ wr).alloc _
     have HF8 := Lib.hid (hf.out.trans F8)
     have HMV := Lib.hid (fmove_any gw R p sg sl ns A c A' c' vp An cn b' _ m _ (HW0.out.fr HF8.out) (hs.out.kept F8 (fun h => h)) hin hmv.1 hmv.2 HC.out.ns HC.out.w HC.out.c HC.out.s HC.out.l (fun x hx => Nat.lt_of_lt_of_le (HRR.out x hx) HF8.out.size))
     have zf := hf.out.size
     clear F8 hs hf hx hmv hin
     obtain ⟨⟨tk, tn⟩, ⟨fk, fn⟩, mc, n⟩ := m
     simp only at c0 c1 c2 c3 c4 c5 HMV
     unfold Mv.fval at HMV
     have hk0 : (0 : Int) ≤ (k : Int) := Int.natCast_nonneg _
     have hk1 : (k : Int) < (l.length : Int) := by omega
     go_wp2_with fail
     refine HMV.out.mono ?_
     rintro e w3 ⟨b4, rfl, s4, f4, h4⟩
     have HS4 := Lib.hid s4
     have HF4 := Lib.hid (HF8.out.trans f4)
     have h5 : w.heap.size ≤ b4 := by simp only [World.size_alloc] at h4; omega
     clear s4 f4 h4 c0 c1 c2 c3 c4 c5 HMV HF8 hbl zf
     go_wp2
     go_roundw
     case rel => exact ⟨k + 1, b4, by omega, rfl, by go_num, by rw [HT.out]; exact HS4, HF4, Or.inr h5⟩
     case measure => simp [intOf]; omega
   · obtain rfl : k = l.length := by omega
     have hs2 : Hid (FSet wr b' 2400 (movesF p S l)) := by
       have := hs.out
       rw [List.take_length] at this
       exact this
     go_wp2
     go_ret
     exact HDEF.out _ _ ⟨b', rfl, hs2.out, hf.out, hb⟩

def RwV.val (x : RwV) : Value := .agg #[.int .i64 x.r.d.k, .int .i64 x.r.d.n, .int .i64 x.r.a.k, .int .i64 x.r.a.n, .int .i64 x.r.b.k, .int .i64 x.r.b.n, x.vb, x.va]
structure RowCnd (p : Pg) (sg sl : Nat) (i : In) (r : Rw) : Prop where
 ok : InsOk p i
 mem : i ∈ p.code
 row : rwB p sg sl i r = true
 n : i.n < 4294967296
 bf : ∀ m ∈ r.before, m.n < 4294967296
 af : ∀ m ∈ r.after, m.n < 4294967296
def TookTo (Q : FS) (i : In) (r : Rw) (k : Nat) : Prop := ∀ j t, j < k → (uses i)[j]? = some t → Q (hasF (if j = 0 then r.a else r.b) t)
theorem tookTo_all {p : Pg} {S : FS} {i : In} {r : Rw} (hk : known i.op = true) : TookTo (movesF p S r.before) i r (uses i).length ↔ tookF p S i r := by
 have hm : many i.op ≤ 2 := by
   unfold many
   split
   · omega
   · split <;> omega
 unfold TookTo tookF uses
 constructor
 · intro h
   refine ⟨fun h0 => ?_, fun h1 => ?_⟩
   · exact h 0 i.a (by simp; omega) (by rw [List.getElem?_take, if_pos (by omega)]; rfl)
   · exact h 1 i.b (by simp; omega) (by rw [List.getElem?_take, if_pos (by omega)]; rfl)
 · rintro ⟨h0, h1⟩ j t hj ht
   rw [List.getElem?_take] at ht
   split at ht
   · rename_i hjm
     match j, ht, hjm with
     | 0, ht, hjm => cases ht; exact h0 (by omega)
     | 1, ht, hjm => cases ht; exact h1 (by omega)
     | j + 2, ht, _ => simp at ht
   · cases ht
theorem tookTo_s {Q : FS} {i : In} {r : Rw} {k : Nat} {t : Int} (hx : (uses i)[k]? = some t) : TookTo Q i r (k + 1) ↔ (TookTo Q i r k ∧ Q (hasF (if k = 0 then r.a else r.b) t)) := by
 unfold TookTo
 constructor
 · intro h
   exact ⟨fun j u hj hu => h j u (by omega) hu, h k t (by omega) hx⟩
 · rintro ⟨h1, h2⟩ j u hj hu
   by_cases e : j = k
   · subst e; rw [hx] at hu; cases hu; exact h2
   · exact h1 j u (by omega) hu
def ThruPost (w : World) (b : Nat) (p : Pg) (S : FS) (i : In) (r : Rw) (e : Ending) (w' : World) : Prop := ∃ (b' : Nat) (ok : Bool), e = .returned (.tuple #[.map (some b'), .bool ok]) ∧ FSet w' b' 2400 (thruF p S i r) ∧ (ok = true ↔ tookF p S i r) ∧ Fr w w' ∧ (b' = b ∨ w.heap.size ≤ b')

set_option maxHeartbeats 8000000 in
set_option maxRecDepth 100000 in
theorem through_any (gw : Nat) (R R' : Nat → Prop) (p : Pg) (sg sl : Nat) (ns : List Nat) (A : Option Addr) (c : Nat) (A' : Option Addr) (c' : Nat) (vp : Value) (An : Option Addr) (cn : Nat) (b : Nat) (S : FS) (i : In) (x : RwV) (w : World)
   (hW : FWd w gw R p sg sl ns A c A' c' vp An cn) (h : FSet w b 2400 S) (hu : InU p sg sl S) (hC : FCnd p sg sl ns) (hx : x.ok w R') (hr : RowCnd p sg sl i x.r) (hR : ∀ x, R x → x < w.heap.size) :
   Calls Tryz.prog 65 #[.pointer (some ⟨gw, 0, none⟩), .map (some b), i.val, x.val] w (ThruPost w b p S i x.r) := by
 obtain ⟨_, _, _, rbf, raf⟩ := hx
 have hafv := (show ∃ A c, x.va = .slice A x.r.after.length c ∧ True from let ⟨A, c, e, _⟩ := raf; ⟨A, c, e, trivial⟩)
 obtain ⟨r1, r2, r3, _⟩ := rwB_facts hr.row hr.ok.kn
 have F1 := Lib.hid (show Fr w ((w.alloc (.cells #[.int .i64 i.op, .int .i64 i.d, .int .i64 i.a, .int .i64 i.b, .int .i64 i.c, .int .u32 (i.n : Int)] 45)).alloc (.cells #[.int .i64 x.r.d.k, .int .i64 x.r.d.n, .int .i64 x.r.a.k, .int .i64 x.r.a.n, .int .i64 x.r.b.k, .int .i64 x.r.b.n, x.vb, x.va] 102)) from ((Kept.refl _ w).alloc _).alloc _)
 have BI1 := Lib.hid (show Blk ((w.alloc (.cells #[.int .i64 i.op, .int .i64 i.d, .int .i64 i.a, .int .i64 i.b, .int .i64 i.c, .int .u32 (i.n : Int)] 45)).alloc (.cells #[.int .i64 x.r.d.k, .int .i64 x.r.d.n, .int .i64 x.r.a.k, .int .i64 x.r.a.n, .int .i64 x.r.b.k, .int .i64 x.r.b.n, x.vb, x.va] 102)) w.heap.size 45 #[.int .i64 i.op, .int .i64 i.d, .int .i64 i.a, .int .i64 i.b, .int .i64 i.c, .int .u32 (i.n : Int)] from (Blk.new w _ _).alloc _)
 have BR1 := Lib.hid (show Blk ((w.alloc (.cells #[.int .i64 i.op, .int .i64 i.d, .int .i64 i.a, .int .i64 i.b, .int .i64 i.c, .int .u32 (i.n : Int)] 45)).alloc (.cells #[.int .i64 x.r.d.k, .int .i64 x.r.d.n, .int .i64 x.r.a.k, .int .i64 x.r.a.n, .int .i64 x.r.b.k, .int .i64 x.r.b.n, x.vb, x.va] 102)) (w.heap.size + 1) 102 #[.int .i64 x.r.d.k, .int .i64 x.r.d.n, .int .i64 x.r.a.k, .int .i64 x.r.a.n, .int .i64 x.r.b.k, .int .i64 x.r.b.n, x.vb, x.va] from by
   have := Blk.new (w.alloc (.cells #[.int .i64 i.op, .int .i64 i.d, .int .i64 i.a, .int .i64 i.b, .int .i64 i.c, .int .u32 (i.n : Int)] 45)) 102 #[.int .i64 x.r.d.k, .int .i64 x.r.d.n, .int .i64 x.r.a.k, .int .i64 x.r.a.n, .int .i64 x.r.b.k, .int .i64 x.r.b.n, x.vb, x.va]
   simpa using this)
 have HMB := Lib.hid (fmoves_any gw R R' p sg sl ns A c A' c' vp An cn b S x.vb x.r.before _ (hW.fr F1.out) (h.kept F1.out (fun h => h)) hu hC (rbf.kept F1.out (fun _ _ h => h)) (fun m hm => ⟨r1 m hm, hr.bf m hm⟩) (fun y hy => Nat.lt_of_lt_of_le (hR y hy) F1.out.size))
 have HU1 := Lib.hid (movesF_in (p := p) (sg := sg) (sl := sl) x.r.before hu r1)
 have HINS := Lib.hid (fun b2 w2 (hs : FSet w2 b2 2400 (movesF p S x.r.before)) => factIns_any gw p sg sl b2 (movesF p S x.r.before) i x.r.d w2 hs (movesF_in (p := p) (sg := sg) (sl := sl) x.r.before hu r1) hr.ok hr.mem r3 hr.n hC.w hC.c hC.s hC.l)
 have HU2 := Lib.hid (show InU p sg sl (insF (movesF p S x.r.before) i x.r.d) from by
   unfold insF
   split
   · rename_i hg
     exact giveF_in (movesF_in _ hu r1) hr.ok hg (r3 hg) hr.mem
   · exact movesF_in _ hu r1)
 have HMA := Lib.hid (fun b2 w2 (hf : Fr w w2) (hs : FSet w2 b2 2400 (insF (movesF p S x.r.before) i x.r.d)) => fmoves_any gw R R' p sg sl ns A c A' c' vp An cn b2 (insF (movesF p S x.r.before) i x.r.d) x.va x.r.after w2 (hW.fr hf) hs HU2.out hC (raf.kept hf (fun _ _ h => h)) (fun m hm => ⟨r2 m hm, hr.af m hm⟩) (fun y hy => Nat.lt_of_lt_of_le (hR y hy) hf.size))
 have HUS := Lib.hid (fun w2 => Uses_any i w2 hr.ok.kn)
 have HTK := Lib.hid (tookTo_all (p := p) (S := S) (i := i) (r := x.r) hr.ok.kn)
 have HULEN : (uses i).length ≤ 2 := by unfold uses; simp; omega
 have HUIN := Lib.hid (fun u (hu : u ∈ uses i) => uses_in hr.ok hu)
 have HDEF : Hid (∀ (e : Ending) (w' : World), (∃ (b' : Nat) (ok : Bool), e = .returned (.tuple #[.map (some b'), .bool ok]) ∧ FSet w' b' 2400 (movesF p (insF (movesF p S x.r.before) i x.r.d) x.r.after) ∧ (ok = true ↔ tookF p S i x.r) ∧ Fr w w' ∧ (b' = b ∨ w.heap.size ≤ b')) → ThruPost w b p S i x.r e w') := fun _ _ h => h
 have HTT : Hid (∀ k, TookTo (movesF p S x.r.before) i x.r k ↔ ∀ j t, j < k → (uses i)[j]? = some t → (movesF p S x.r.before) (hasF (if j = 0 then x.r.a else x.r.b) t)) := fun _ => Iff.rfl
 have HWL := Lib.hid hC.w
 have HAB := Lib.hid (show (0 < (uses i).length → x.r.a.ok) ∧ (1 < (uses i).length → x.r.b.ok) from by
   obtain ⟨_, _, _, q1, q2, _⟩ := rwB_facts hr.row hr.ok.kn
   unfold uses
   refine ⟨fun h0 => isB_ok (q1 (by simp at h0; omega)).2 hC.s hC.l, fun h1 => isB_ok (q2 (by simp at h1; omega)).2 hC.s hC.l⟩)
 clear hW h hu hC rbf raf hr hR r1 r2 r3
 obtain ⟨op, d, ia, ib, ic, n⟩ := i
 obtain ⟨⟨⟨dk, dn⟩, ⟨ak, an⟩, ⟨bk, bn⟩, bef, aft⟩, vb, va⟩ := x
 unfold In.val RwV.val
 simp only at *
 generalize movesF p S bef = S1 at *
 generalize hS2 : insF S1 ⟨op, d, ia, ib, ic, n⟩ ⟨dk, dn⟩ = S2 at *
 have HS2E := Lib.hid hS2
 clear hS2
 generalize movesF p S2 aft = S3 at *
 unfold In.val at HUS HINS
 unfold PlaceV.val at HINS
 simp only at HUS HINS
 go_enter Tryz.func65, Tryz.ntmps65
 go_wp2_with fail
 refine HMB.out.mono ?_
 rintro e w2 ⟨b1, rfl, s1, f2, h1⟩
 have HF2 := Lib.hid (F1.out.trans f2)
 have HS2 := Lib.hid s1
 have HI2 := Lib.hid (BI1.out.kept f2 (fun h => h))
 have HR2 := Lib.hid (BR1.out.kept f2 (fun h => h))
 have hb1 : b1 = b ∨ w.heap.size ≤ b1 := by
   rcases h1 with h1 | h1
   · exact Or.inl h1
   · simp only [World.size_alloc] at h1; exact Or.inr (by omega)
 clear s1 f2 h1 HMB F1 BI1 BR1
 have q0 := HI2.out.cell 0
 have q1 := HI2.out.cell 1
 have q2 := HI2.out.cell 2
 have q3 := HI2.out.cell 3
 have q4 := HI2.out.cell 4
 have q5 := HI2.out.cell 5
 have zq := HI2.out.lt
 simp only [List.getElem?_toArray, List.getElem?_cons_succ, List.getElem?_cons_zero] at q0 q1 q2 q3 q4 q5
 go_wp2_with fail
 refine (HUS.out _).mono ?_
 rintro e w3 ⟨vu, rfl, hru, f3⟩
 obtain ⟨Au, cu, rfl, _⟩ := id hru
 have HF3 := Lib.hid (HF2.out.trans f3)
 have HS3 := Lib.hid (HS2.out.kept f3 (fun h => h))
 have HI3 := Lib.hid (HI2.out.kept f3 (fun h => h))
 have HR3 := Lib.hid (HR2.out.kept f3 (fun h => h))
 have HRU := Lib.hid hru
 clear f3 HF2 HS2 HI2 HR2 hru q0 q1 q2 q3 q4 q5 zq HUS
 generalize hUL : uses (⟨op, d, ia, ib, ic, n⟩ : In) = ul at *
 go_wp2
 go_loopw [10, 21] (fun r i wr => ∃ (k : Nat) (x : Bool), k ≤ ul.length ∧ r = .bool x ∧ i = .int .i64 k ∧ Hid (x = true ↔ TookTo S1 ⟨op, d, ia, ib, ic, n⟩ ⟨⟨dk, dn⟩, ⟨ak, an⟩, ⟨bk, bn⟩, bef, aft⟩ k) ∧ Hid (Fr w3 wr)) (fun _ i _ => ul.length - (intOf i).toNat)
 case atStart => exact ⟨0, true, Nat.zero_le _, rfl, rfl, iff_of_true rfl (fun j t hj => by omega), Lib.hid (Kept.refl _ w3)⟩
 case round =>
   obtain ⟨k, x, hk, rfl, rfl, HT0, HF⟩ := hrel
   by_cases hlt : k < ul.length
   · obtain ⟨t, hx⟩ : ∃ t, ul[k]? = some t := ⟨_, List.getElem?_eq_getElem hlt⟩
     obtain ⟨b5, o5, c5, e5, _, hb5, c0⟩ := (HRU.out.kept HF.out (fun _ _ h => h)).at_ hx
     obtain ⟨rfl, _, rfl⟩ : Au = some ⟨b5, o5, none⟩ ∧ True ∧ cu = c5 := by simpa using e5
     clear e5
     have hit : inI t := by
       have h1 := HUIN.out t (List.mem_of_getElem? hx)
       have h2 := HWL.out
       unfold tempIn at h1
       unfold inI; omega
     have HX := Lib.hid (show (uses (⟨op, d, ia, ib, ic, n⟩ : In))[k]? = some t from by rw [hUL]; exact hx)
     clear hx
     have hk0 : (0 : Int) ≤ (k : Int) := Int.natCast_nonneg _
     have hk1 : (k : Int) < (ul.length : Int) := by omega
     have hRr := HR3.out.kept HF.out (fun h => h)
     have r2 := hRr.cell 2
     have r3 := hRr.cell 3
     have r4 := hRr.cell 4
     have r5 := hRr.cell 5
     have zr := hRr.lt
     simp only [List.getElem?_toArray, List.getElem?_cons_succ, List.getElem?_cons_zero] at r2 r3 r4 r5
     clear hRr
     have hkk : k = 0 ∨ k = 1 := by omega
     cases x with
     | false =>
       have HN : Hid (false = true ↔ TookTo S1 ⟨op, d, ia, ib, ic, n⟩ ⟨⟨dk, dn⟩, ⟨ak, an⟩, ⟨bk, bn⟩, bef, aft⟩ (k + 1)) := iff_of_false (by decide) (fun h => absurd (HT0.out.2 ((tookTo_s HX.out).1 h).1) (by decide))
       clear HT0 hkk
       go_wp2
       go_roundw
       case rel => exact ⟨k + 1, false, by omega, rfl, by go_num, HN, HF⟩
       case measure => simp [intOf]; omega
     | true =>
       rcases hkk with rfl | rfl
       · have hok := HAB.out.1 hlt
         have c0' : wr.cell? ⟨b5, o5, none⟩ = some (.int .i64 t) := c0
         have hk2 : (0 : Int) < (ul.length : Int) := by omega
         have hpi : ∀ w, (Instr.index 172 (.agg #[.int .i64 ak, .int .i64 an, .int .i64 bk, .int .i64 bn]) (.int .i64 0)).run Tryz.prog w = .ok (.agg #[.int .i64 ak, .int .i64 an]) w := fun _ => by kernel_rfl
         clear c0 hk0 hk1
         have hcast : ((0 : Nat) : Int) = 0 := rfl
         by_cases hq : S1 (hasF ⟨ak, an⟩ t)
         · have HN : Hid (true = true ↔ TookTo S1 ⟨op, d, ia, ib, ic, n⟩ ⟨⟨dk, dn⟩, ⟨ak, an⟩, ⟨bk, bn⟩, bef, aft⟩ (0 + 1)) := iff_of_true rfl ((tookTo_s HX.out).2 ⟨HT0.out.1 rfl, hq⟩)
           go_wp2_with (first
             | (go_at_call 82; refine (has_any ⟨ak, an⟩ t _).mono ?_; rintro e w9 ⟨rfl, f9⟩; have HF9 := Lib.hid ((show Fr w3 wr from HF.out).trans f9); have hlk := SetAt.lookB setTy (HS3.out.kept HF9.out (fun h => h)) (hasF_ok (a := ⟨ak, an⟩) hok hit) true (iff_of_true rfl hq); clear f9)
             | go_in)
           go_roundw
           case rel => exact ⟨0 + 1, true, by omega, rfl, rfl, (show Hid _ from iff_of_true rfl (HN.out.1 (by trivial))), HF9⟩
           case measure => simp [intOf]; omega
         · have HN : Hid (false = true ↔ TookTo S1 ⟨op, d, ia, ib, ic, n⟩ ⟨⟨dk, dn⟩, ⟨ak, an⟩, ⟨bk, bn⟩, bef, aft⟩ (0 + 1)) := iff_of_false (by decide) (fun h => hq ((tookTo_s HX.out).1 h).2)
           go_wp2_with (first
             | (go_at_call 82; refine (has_any ⟨ak, an⟩ t _).mono ?_; rintro e w9 ⟨rfl, f9⟩; have HF9 := Lib.hid ((show Fr w3 wr from HF.out).trans f9); have hlk := SetAt.lookB setTy (HS3.out.kept HF9.out (fun h => h)) (hasF_ok (a := ⟨ak, an⟩) hok hit) false (iff_of_false (by decide) hq); clear f9)
             | go_in)
           go_roundw
           case rel => exact ⟨0 + 1, false, by omega, rfl, rfl, HN, HF9⟩
           case measure => simp [intOf]; omega
       · have hok := HAB.out.2 hlt
         have c0' : wr.cell? ⟨b5, o5 + 1, none⟩ = some (.int .i64 t) := c0
         have hk2 : (1 : Int) < (ul.length : Int) := by omega
         have hpi : ∀ w, (Instr.index 172 (.agg #[.int .i64 ak, .int .i64 an, .int .i64 bk, .int .i64 bn]) (.int .i64 1)).run Tryz.prog w = .ok (.agg #[.int .i64 bk, .int .i64 bn]) w := fun _ => by kernel_rfl
         clear c0 hk0 hk1
         have hcast : ((1 : Nat) : Int) = 1 := rfl
         by_cases hq : S1 (hasF ⟨bk, bn⟩ t)
         · have HN : Hid (true = true ↔ TookTo S1 ⟨op, d, ia, ib, ic, n⟩ ⟨⟨dk, dn⟩, ⟨ak, an⟩, ⟨bk, bn⟩, bef, aft⟩ (1 + 1)) := iff_of_true rfl ((tookTo_s HX.out).2 ⟨HT0.out.1 rfl, hq⟩)
           go_wp2_with (first
             | (go_at_call 82; refine (has_any ⟨bk, bn⟩ t _).mono ?_; rintro e w9 ⟨rfl, f9⟩; have HF9 := Lib.hid ((show Fr w3 wr from HF.out).trans f9); have hlk := SetAt.lookB setTy (HS3.out.kept HF9.out (fun h => h)) (hasF_ok (a := ⟨bk, bn⟩) hok hit) true (iff_of_true rfl hq); clear f9)
             | go_in)
           go_roundw
           case rel => exact ⟨1 + 1, true, by omega, rfl, rfl, (show Hid _ from iff_of_true rfl (HN.out.1 (by trivial))), HF9⟩
           case measure => simp [intOf]; omega
         · have HN : Hid (false = true ↔ TookTo S1 ⟨op, d, ia, ib, ic, n⟩ ⟨⟨dk, dn⟩, ⟨ak, an⟩, ⟨bk, bn⟩, bef, aft⟩ (1 + 1)) := iff_of_false (by decide) (fun h => hq ((tookTo_s HX.out).1 h).2)
           go_wp2_with (first
             | (go_at_call 82; refine (has_any ⟨bk, bn⟩ t _).mono ?_; rintro e w9 ⟨rfl, f9⟩; have HF9 := Lib.hid ((show Fr w3 wr from HF.out).trans f9); have hlk := SetAt.lookB setTy (HS3.out.kept HF9.out (fun h => h)) (hasF_ok (a := ⟨bk, bn⟩) hok hit) false (iff_of_false (by decide) hq); clear f9)
             | go_in)
           go_roundw
           case rel => exact ⟨1 + 1, false, by omega, rfl, rfl, HN, HF9⟩
           case measure => simp [intOf]; omega
   · obtain rfl : k = ul.length := by omega
     have HTE := Lib.hid (HT0.out.trans HTK.out)
     have HS9 := Lib.hid (HS3.out.kept HF.out (fun h => h))
     have HF9 := Lib.hid (HF3.out.trans HF.out)
     have hI9 := HI3.out.kept HF.out (fun h => h)
     have hR9 := HR3.out.kept HF.out (fun h => h)
     have q0 := hI9.cell 0
     have q1 := hI9.cell 1
     have q2 := hI9.cell 2
     have q3 := hI9.cell 3
     have q4 := hI9.cell 4
     have q5 := hI9.cell 5
     have zq := hI9.lt
     have g0 := hR9.cell 0
     have g1 := hR9.cell 1
     have g7 := hR9.cell 7
     have zg := hR9.lt
     simp only [List.getElem?_toArray, List.getElem?_cons_succ, List.getElem?_cons_zero] at q0 q1 q2 q3 q4 q5 g0 g1 g7
     have zwr := HF9.out.size
     clear HT0 HTK HF HS3 HI3 HR3 HRU hI9 hR9 HF3
     obtain ⟨Aa, ca, rfl, _⟩ := id hafv
     go_wp2
     go_region_held3 (fun w' => w'.cell? ⟨w.heap.size, 0, none⟩ = some (.int .i64 op) ∧ w'.cell? ⟨w.heap.size, 1, none⟩ = some (.int .i64 d) ∧ w'.cell? ⟨w.heap.size, 2, none⟩ = some (.int .i64 ia) ∧ w'.cell? ⟨w.heap.size, 3, none⟩ = some (.int .i64 ib) ∧ w'.cell? ⟨w.heap.size, 4, none⟩ = some (.int .i64 ic) ∧ w'.cell? ⟨w.heap.size, 5, none⟩ = some (.int .u32 (n : Int)) ∧ w'.cell? ⟨w.heap.size + 1, 0, none⟩ = some (.int .i64 dk) ∧ w'.cell? ⟨w.heap.size + 1, 1, none⟩ = some (.int .i64 dn) ∧ w'.cell? ⟨w.heap.size + 1, 7, none⟩ = some (.slice Aa aft.length ca))
       (first
         | go_keep
         | exact sa
         | exact sb)
       (first
         | (go_at_call 86; refine (HINS.out b1 _ (HS9.out.kept ((Kept.refl (fun _ => False) wr).drew) (fun h => h))).mono ?_; rintro e wa ⟨b6, rfl, s6, f6, h6⟩; have fa := (Kept.refl (fun _ => False) _).trans f6; have sa := (show wa.cell? ⟨w.heap.size, 0, none⟩ = some (.int .i64 op) ∧ wa.cell? ⟨w.heap.size, 1, none⟩ = some (.int .i64 d) ∧ wa.cell? ⟨w.heap.size, 2, none⟩ = some (.int .i64 ia) ∧ wa.cell? ⟨w.heap.size, 3, none⟩ = some (.int .i64 ib) ∧ wa.cell? ⟨w.heap.size, 4, none⟩ = some (.int .i64 ic) ∧ wa.cell? ⟨w.heap.size, 5, none⟩ = some (.int .u32 (n : Int)) ∧ wa.cell? ⟨w.heap.size + 1, 0, none⟩ = some (.int .i64 dk) ∧ wa.cell? ⟨w.heap.size + 1, 1, none⟩ = some (.int .i64 dn) ∧ wa.cell? ⟨w.heap.size + 1, 7, none⟩ = some (.slice Aa aft.length ca) from ⟨(fa.cell zq (fun h => h)).trans q0, (fa.cell zq (fun h => h)).trans q1, (fa.cell zq (fun h => h)).trans q2, (fa.cell zq (fun h => h)).trans q3, (fa.cell zq (fun h => h)).trans q4, (fa.cell zq (fun h => h)).trans q5, (fa.cell zg (fun h => h)).trans g0, (fa.cell zg (fun h => h)).trans g1, (fa.cell zg (fun h => h)).trans g7⟩); have fwa := (show Fr w wr from HF9.out).trans ((Kept.refl (fun _ => False) wr).drew.trans fa); have s6b := (show FSet wa b6 2400 S2 from HS2E.out ▸ s6))
         | (go_at_call 85; refine (HMA.out b6 _ fwa s6b).mono ?_; rintro e wb ⟨b7, rfl, s7, f7, h7⟩; have fb := fa.trans f7; have sb := (show wb.cell? ⟨w.heap.size, 0, none⟩ = some (.int .i64 op) ∧ wb.cell? ⟨w.heap.size, 1, none⟩ = some (.int .i64 d) ∧ wb.cell? ⟨w.heap.size, 2, none⟩ = some (.int .i64 ia) ∧ wb.cell? ⟨w.heap.size, 3, none⟩ = some (.int .i64 ib) ∧ wb.cell? ⟨w.heap.size, 4, none⟩ = some (.int .i64 ic) ∧ wb.cell? ⟨w.heap.size, 5, none⟩ = some (.int .u32 (n : Int)) ∧ wb.cell? ⟨w.heap.size + 1, 0, none⟩ = some (.int .i64 dk) ∧ wb.cell? ⟨w.heap.size + 1, 1, none⟩ = some (.int .i64 dn) ∧ wb.cell? ⟨w.heap.size + 1, 7, none⟩ = some (.slice Aa aft.length ca) from ⟨(fb.cell zq (fun h => h)).trans q0, (fb.cell zq (fun h => h)).trans q1, (fb.cell zq (fun h => h)).trans q2, (fb.cell zq (fun h => h)).trans q3, (fb.cell zq (fun h => h)).trans q4, (fb.cell zq (fun h => h)).trans q5, (fb.cell zg (fun h => h)).trans g0, (fb.cell zg (fun h => h)).trans g1, (fb.cell zg (fun h => h)).trans g7⟩)))
     rename_i hHeld
     clear hHeld
     have HFIN := Lib.hid (fwa.trans f7)
     have HS7 := Lib.hid s7
     have hb7 : b7 = b ∨ w.heap.size ≤ b7 := by
       have zz := fa.size
       have z1 : wr.drew.heap.size = wr.heap.size := rfl
       have z2 := fwa.size
       omega
     clear sa sb fa fb f6 f7 fwa s6 s6b s7 h6 h7 q0 q1 q2 q3 q4 q5 zq g0 g1 g7 zg
     go_wp2
     go_ret2
     exact HDEF.out _ _ ⟨b7, x, rfl, HS7.out, HTE.out, HFIN.out, hb7⟩
end Go.Proofs.YtodmkjeankbieaaGreatDoor


namespace Go.Proofs.YtodmkjeankbieaaGreatDoor
open Go.RowKit Go.Sort Go.Maps

def BegP (p : Pg) (a : PlaceV) (k : Nat) : FS := fun y => ∃ t : Nat, t < k ∧ mayT p.wide a.k (t : Int) = true ∧ y = hasF a (t : Int)
def BegA (p : Pg) (a : PlaceV) : FS := fun y => BegP p a p.wide.length y ∨ (a.k ≠ 2 ∧ y = isF a 0)
def BegL (p : Pg) (l : List PlaceV) : FS := fun y => ∃ a ∈ l, BegA p a y
def BegK (p : Pg) (k : Nat) : FS := fun y => ∃ t : Nat, t < k ∧ wd p.wide (t : Int) = false ∧ y = knF (t : Int) 0
theorem begP_yes {p : Pg} {a : PlaceV} {k : Nat} {y : Fc} (h : mayT p.wide a.k (k : Int) = true) : (BegP p a k y ∨ y = hasF a (k : Int)) ↔ BegP p a (k + 1) y := by
 unfold BegP
 constructor
 · rintro (⟨t, h1, h2, h3⟩ | h1)
   · exact ⟨t, by omega, h2, h3⟩
   · exact ⟨k, by omega, h, h1⟩
 · rintro ⟨t, h1, h2, h3⟩
   by_cases e : t = k
   · subst e; exact Or.inr h3
   · exact Or.inl ⟨t, by omega, h2, h3⟩
theorem begP_no {p : Pg} {a : PlaceV} {k : Nat} {y : Fc} (h : mayT p.wide a.k (k : Int) = false) : BegP p a k y ↔ BegP p a (k + 1) y := by
 unfold BegP
 constructor
 · rintro ⟨t, h1, h2, h3⟩
   exact ⟨t, by omega, h2, h3⟩
 · rintro ⟨t, h1, h2, h3⟩
   by_cases e : t = k
   · subst e; rw [h] at h2; cases h2
   · exact ⟨t, by omega, h2, h3⟩
theorem begK_yes {p : Pg} {k : Nat} {y : Fc} (h : wd p.wide (k : Int) = false) : (BegK p k y ∨ y = knF (k : Int) 0) ↔ BegK p (k + 1) y := by
 unfold BegK
 constructor
 · rintro (⟨t, h1, h2, h3⟩ | h1)
   · exact ⟨t, by omega, h2, h3⟩
   · exact ⟨k, by omega, h, h1⟩
 · rintro ⟨t, h1, h2, h3⟩
   by_cases e : t = k
   · subst e; exact Or.inr h3
   · exact Or.inl ⟨t, by omega, h2, h3⟩
theorem begK_no {p : Pg} {k : Nat} {y : Fc} (h : wd p.wide (k : Int) = true) : BegK p k y ↔ BegK p (k + 1) y := by
 unfold BegK
 constructor
 · rintro ⟨t, h1, h2, h3⟩
   exact ⟨t, by omega, h2, h3⟩
 · rintro ⟨t, h1, h2, h3⟩
   by_cases e : t = k
   · subst e; rw [h] at h2; cases h2
   · exact ⟨t, by omega, h2, h3⟩
theorem begL_s {p : Pg} {l : List PlaceV} {k : Nat} {a : PlaceV} {y : Fc} (h : l[k]? = some a) : (BegL p (l.take k) y ∨ BegA p a y) ↔ BegL p (l.take (k + 1)) y := by
 unfold BegL
 rw [List.take_add_one, h]
 simp
theorem beg_all {p : Pg} {sg sl : Nat} {y : Fc} : (BegL p (placesL sg sl) y ∨ BegK p p.wide.length y) ↔ beginF p sg sl y := by
 unfold BegL BegA BegP BegK beginF
 constructor
 · rintro (⟨a, ha, ⟨t, h1, h2, rfl⟩ | ⟨h1, rfl⟩⟩ | ⟨t, h1, h2, rfl⟩)
   · exact ⟨Or.inr (Or.inl ⟨placesL_mem.1 ha, rfl, rfl, ⟨by show 0 ≤ (t : Int); omega, by show (t : Int) < _; omega⟩, h2⟩), rfl⟩
   · exact ⟨Or.inr (Or.inr ⟨placesL_mem.1 ha, rfl, rfl, h1, Or.inl rfl⟩), rfl⟩
   · exact ⟨Or.inl ⟨rfl, rfl, ⟨by show 0 ≤ (t : Int); omega, by show (t : Int) < _; omega⟩, h2, Or.inl rfl⟩, rfl⟩
 · obtain ⟨pl, temp, t, n⟩ := y
   rintro ⟨⟨h1, h2, ⟨h3, h4⟩, h5, h6⟩ | ⟨h1, h2, h3, ⟨h4, h5⟩, h6⟩ | ⟨h1, h2, h3, h4, h5⟩, h0⟩
   · try simp only at h0 h1 h2 h3 h4 h5 h6
     subst h1; subst h2; subst h0
     have e : ((t.toNat : Nat) : Int) = t := by omega
     exact Or.inr ⟨t.toNat, by omega, by rw [e]; exact h5, by rw [e]; rfl⟩
   · try simp only at h0 h1 h2 h3 h4 h5 h6
     subst h2; subst h0
     have e : ((t.toNat : Nat) : Int) = t := by omega
     exact Or.inl ⟨pl, placesL_mem.2 h1, Or.inl ⟨t.toNat, by omega, by rw [e]; exact h6, by rw [e]; rfl⟩⟩
   · try simp only at h0 h1 h2 h3 h4 h5
     subst h2; subst h3; subst h0
     exact Or.inl ⟨pl, placesL_mem.2 h1, Or.inr ⟨h4, rfl⟩⟩
theorem RdPl.at_ {w : World} {R : Nat → Prop} {A : Option Addr} {c : Nat} {l : List PlaceV} (h : RdPl w R (.slice A l.length c) l) {k : Nat} {a : PlaceV} (hx : l[k]? = some a) :
   ∃ b off, A = some ⟨b, off, none⟩ ∧ R b ∧ b < w.heap.size ∧ w.cell? ⟨b, off + k * 2, none⟩ = some (.int .i64 a.k) ∧ w.cell? ⟨b, off + k * 2 + 1, none⟩ = some (.int .i64 a.n) := by
 obtain ⟨A', c', e, _, hr⟩ := h
 obtain ⟨rfl, _, rfl⟩ : A = A' ∧ True ∧ c = c' := by simpa using e
 obtain ⟨_, h2⟩ := hr.elem (f := PlaceV.cells) (s := 2) (fun _ => rfl) (by omega)
 have hk : k < l.length := (List.getElem?_eq_some_iff.1 hx).1
 obtain ⟨b, off, hA, hR, hc⟩ := h2 (by omega)
 have c0 := hc k a hx 0 _ rfl
 exact ⟨b, off, hA, hR, cell_lt c0, c0, hc k a hx 1 _ rfl⟩
theorem placesL_len {sg sl : Nat} (hs : sg ≤ 16) (hl : sl ≤ 12) : (placesL sg sl).length ≤ 36 := by unfold placesL; simp; omega
theorem placesL_ok {sg sl : Nat} (hs : sg ≤ 16) (hl : sl ≤ 12) {a : PlaceV} (h : a ∈ placesL sg sl) : a.ok := isB_ok (placesL_mem.1 h) hs hl

set_option maxHeartbeats 8000000 in
set_option maxRecDepth 100000 in
theorem begin_any (gw : Nat) (R : Nat → Prop) (p : Pg) (sg sl : Nat) (ns : List Nat) (A : Option Addr) (c : Nat) (A' : Option Addr) (c' : Nat) (Ap : Option Addr) (cp : Nat) (An : Option Addr) (cn : Nat) (w : World)
   (hW : FWd w gw R p sg sl ns A c A' c' (.slice Ap (placesL sg sl).length cp) An cn) (hC : FCnd p sg sl ns) :
   Calls Tryz.prog 64 #[.pointer (some ⟨gw, 0, none⟩)] w fun e w' => ∃ b', e = .returned (.map (some b')) ∧ FSet w' b' 2400 (beginF p sg sl) ∧ Fr w w' ∧ w.heap.size ≤ b' := by
 have hmm := @run_makeMap Tryz.prog
 have zg := hW.wb.lt
 have hWW := hC.w
 have hpl := placesL_len hC.s hC.l
 have HPK := Lib.hid (fun a (ha : a ∈ placesL sg sl) => placesL_ok hC.s hC.l ha)
 have HALL := Lib.hid (fun y => beg_all (p := p) (sg := sg) (sl := sl) (y := y))
 have HC := Lib.hid hC
 have HBIN : Hid (InU p sg sl (beginF p sg sl)) := fun f hf => hf.1
 have HRP := Lib.hid hW.pl
 have HW0 := Lib.hid hW
 have HF1 := Lib.hid (show Fr w (w.alloc (.map #[] 0)) from (Kept.refl _ w).alloc _)
 have HM1 := Lib.hid (show FSet (w.alloc (.map #[] 0)) w.heap.size 0 (BegL p ((placesL sg sl).take 0)) from (SetAt.made w).congr fun y => ⟨fun h => h.elim, fun ⟨_, h, _⟩ => by simp at h⟩)
 have HW1 := Lib.hid (hW.fr HF1.out)
 generalize placesL sg sl = PL at *
 clear hW hC
 have g0 := HW1.out.wb.cell 0
 have g1 := HW1.out.wb.cell 1
 have g2 := HW1.out.wb.cell 2
 have zg1 := HW1.out.wb.lt
 simp only [List.getElem?_toArray, List.getElem?_cons_succ, List.getElem?_cons_zero] at g0 g1 g2
 go_enter Tryz.func64, Tryz.ntmps64
 go_wp2
 clear g0 g1 g2 zg1
 go_loopw [15] (fun i wr => ∃ j m : Nat, j ≤ PL.length ∧ i = .int .i64 j ∧ Hid (FSet wr w.heap.size m (BegL p (PL.take j))) ∧ m ≤ 13 * j ∧ Hid (Fr w wr)) (fun i _ => PL.length - (intOf i).toNat)
 case atStart => exact ⟨0, 0, Nat.zero_le _, rfl, HM1, by omega, HF1⟩
 case round =>
   obtain ⟨j, m, hj, rfl, hs, hm, hf⟩ := hrel
   clear HM1 HF1 HW1
   have hw1 := HW0.out.fr hf.out
   have g0 := hw1.wb.cell 0
   have g1 := hw1.wb.cell 1
   have zg1 := hw1.wb.lt
   simp only [List.getElem?_toArray, List.getElem?_cons_succ, List.getElem?_cons_zero] at g0 g1
   by_cases hlt : j < PL.length
   · obtain ⟨a, hx⟩ : ∃ a, PL[j]? = some a := ⟨_, List.getElem?_eq_getElem hlt⟩
     obtain ⟨b3, o3, rfl, _, hb3, c0, c1⟩ := RdPl.at_ (HRP.out.kept hf.out (fun _ _ h => h)) hx
     have HAK := Lib.hid (HPK.out a (List.mem_of_getElem? hx))
     have HS := Lib.hid (fun y => begL_s (p := p) (y := y) hx)
     clear hx hw1
     have hj0 : (0 : Int) ≤ (j : Int) := Int.natCast_nonneg _
     have hj1 : (j : Int) < (PL.length : Int) := by omega
     obtain ⟨wo, rfl⟩ : ∃ wo : World, wo = wr := ⟨_, rfl⟩
     have HF8 := Lib.hid (show Fr w (wo.alloc (.cells #[.int .i64 a.k, .int .i64 a.n] 99)) from hf.out.alloc _)
     have HS8 := Lib.hid (show FSet (wo.alloc (.cells #[.int .i64 a.k, .int .i64 a.n] 99)) w.heap.size m (fun y => BegL p (PL.take j) y ∨ BegP p a 0 y) from (hs.out.alloc _).congr fun y => ⟨Or.inl, fun h => h.elim id (fun ⟨t, ht, _⟩ => by omega)⟩)
     have HB8 := Lib.hid (Blk.new wo 99 #[.int .i64 a.k, .int .i64 a.n])
     have zwo := hs.out.lt
     clear hs hf
     generalize BegL p (PL.take j) = BL at *
     go_wp2
     clear g0 g1 zg1 c0 c1 hb3
     go_loopw [25] (fun i wr => ∃ t m' : Nat, t ≤ p.wide.length ∧ i = .int .i64 t ∧ Hid (FSet wr w.heap.size m' (fun y => BL y ∨ BegP p a t y)) ∧ m' ≤ 13 * j + t ∧ Hid (Blk wr wo.heap.size 99 #[.int .i64 a.k, .int .i64 a.n]) ∧ Hid (Fr w wr)) (fun i _ => p.wide.length - (intOf i).toNat)
     case atStart => exact ⟨0, m, Nat.zero_le _, rfl, HS8, by omega, HB8, HF8⟩
     case round =>
       obtain ⟨t, m', ht, rfl, hs, hm', hb, hf⟩ := hrel
       clear HS8 HB8 HF8
       have hw1 := HW0.out.fr hf.out
       have g0 := hw1.wb.cell 0
       have g1 := hw1.wb.cell 1
       have zg1 := hw1.wb.lt
       have d0 := hb.out.cell 0
       have d1 := hb.out.cell 1
       have zd := hb.out.lt
       simp only [List.getElem?_toArray, List.getElem?_cons_succ, List.getElem?_cons_zero] at g0 g1 d0 d1
       by_cases htl : t < p.wide.length
       · have ht0 : (0 : Int) ≤ (t : Int) := Int.natCast_nonneg _
         have ht1 : (t : Int) < (p.wide.length : Int) := by omega
         have HMAY := Lib.hid (fun w9 (hf9 : Fr wr w9) => may_any R _ p a t w9 (hw1.pg.kept hf9 (fun _ _ h => h)) htl)
         generalize hmy : mayT p.wide a.k (t : Int) = my at *
         have HMY := Lib.hid hmy
         clear hmy hw1
         obtain ⟨ak, an⟩ := a
         unfold PlaceV.val at HMAY
         simp only at *
         go_wp2
         go_region_held3 (fun w' => w'.cell? ⟨gw, 0, none⟩ = some (.slice A p.wide.length c) ∧ w'.cell? ⟨gw, 1, none⟩ = some (.slice A' p.code.length c') ∧ w'.cell? ⟨wo.heap.size, 0, none⟩ = some (.int .i64 ak) ∧ w'.cell? ⟨wo.heap.size, 1, none⟩ = some (.int .i64 an))
           (first
             | go_keep
             | exact sa)
           (first
             | (go_at_call 81; refine (HMAY.out _ ((Kept.refl _ wr).drew)).mono ?_; rintro e wa ⟨rfl, f9⟩; have fa := (Kept.refl (fun _ => False) _).trans f9; have sa := (show wa.cell? ⟨gw, 0, none⟩ = some (.slice A p.wide.length c) ∧ wa.cell? ⟨gw, 1, none⟩ = some (.slice A' p.code.length c') ∧ wa.cell? ⟨wo.heap.size, 0, none⟩ = some (.int .i64 ak) ∧ wa.cell? ⟨wo.heap.size, 1, none⟩ = some (.int .i64 an) from ⟨(fa.cell zg1 (fun h => h)).trans g0, (fa.cell zg1 (fun h => h)).trans g1, (fa.cell zd (fun h => h)).trans d0, (fa.cell zd (fun h => h)).trans d1⟩)))
         rename_i hHeld
         clear hHeld
         have fx := (Kept.refl (fun _ => False) wr).drew.trans fa
         have HSa := Lib.hid (hs.out.kept fx (fun h => h))
         have HBa := Lib.hid (hb.out.kept fx (fun h => h))
         have HFa := Lib.hid (hf.out.trans fx)
         have d0a := sa.2.2.1
         have d1a := sa.2.2.2
         have zda := HBa.out.lt
         clear sa fa f9 fx hs hb hf g0 g1 d0 d1 zd zg1 HMAY
         cases my with
         | false =>
           have HN := Lib.hid (HSa.out.congr fun y => or_congr Iff.rfl (begP_no (a := ⟨ak, an⟩) HMY.out))
           clear HSa
           go_wp2
           go_roundw
           case rel => exact ⟨t + 1, m', by omega, by go_num, HN, by omega, HBa, HFa⟩
           case measure => simp [intOf]; omega
         | true =>
           go_wp2_with fail
           refine (has_any ⟨ak, an⟩ (t : Int) _).mono ?_
           rintro e w9 ⟨rfl, f9⟩
           have HS9 := Lib.hid (HSa.out.kept f9 (fun h => h))
           have HB9 := Lib.hid (HBa.out.kept f9 (fun h => h))
           have HF9 := Lib.hid (HFa.out.trans f9)
           clear f9 HSa HBa HFa d0a d1a zda
           have zz := HB9.out.lt
           go_wp2_with (first
             | (at_mapUpdate; refine wpList_set_store _ rfl _ _ _ rfl setTy w.heap.size m' _ rfl HS9.out (by unfold maxLen; omega) (hasF ⟨ak, an⟩ (t : Int)) rfl (hasF_ok HAK.out (by unfold inI; omega)) rfl ?_; intro wB hsB hkB; go_frame)
             | go_in)
           have HN := Lib.hid (hsB.congr fun y => (or_assoc).trans (or_congr Iff.rfl (begP_yes (a := ⟨ak, an⟩) HMY.out)))
           have HBB := Lib.hid (HB9.out.kept hkB (by omega))
           have HFB := Lib.hid (HF9.out.then hkB (fun i hi e => by omega))
           clear hsB hkB HS9 HB9 HF9
           go_roundw
           case rel => exact ⟨t + 1, m' + 1, by omega, by go_num, HN, by omega, HBB, HFB⟩
           case measure => simp [intOf]; omega
       · obtain rfl : t = p.wide.length := by omega
         clear hw1 g0 g1 zg1
         by_cases e2 : a.k = 2
         · have HN := Lib.hid (hs.out.congr fun y => (or_congr Iff.rfl ⟨Or.inl, fun h => h.elim id (fun h => absurd e2 h.1)⟩).trans (HS.out y))
           have e2' : (a.k != 2) = false := by simpa using e2
           clear hs hb HS e2
           generalize a.k = ak at *
           generalize a.n = an at *
           go_wp2
           go_roundw
           case rel => exact ⟨j + 1, m', by omega, by go_num, HN, by omega, hf⟩
           case measure => simp [intOf]; omega
         · have e2' : (a.k != 2) = true := by simpa using e2
           have HI := Lib.hid (fun w2 => fis_any a 0 w2)
           have HAD := Lib.hid (show ∀ y, ((BL y ∨ BegP p a p.wide.length y) ∨ y = isF a 0) ↔ (BL y ∨ BegA p a y) from fun y => (or_assoc).trans (or_congr Iff.rfl (or_congr Iff.rfl ⟨fun h => ⟨e2, h⟩, fun h => h.2⟩)))
           clear e2
           obtain ⟨ak, an⟩ := a
           unfold PlaceV.val at HI
           simp only at *
           go_wp2_with fail
           refine (HI.out _).mono ?_
           rintro e w9 ⟨rfl, f9⟩
           have HS9 := Lib.hid (hs.out.kept f9 (fun h => h))
           have HF9 := Lib.hid (hf.out.trans f9)
           clear f9 hs hb hf d0 d1 zd HI
           go_wp2_with (first
             | (at_mapUpdate; refine wpList_set_store _ rfl _ _ _ rfl setTy w.heap.size m' _ rfl HS9.out (by unfold maxLen; omega) (isF ⟨ak, an⟩ 0) rfl (isF_ok HAK.out (by omega)) rfl ?_; intro wB hsB hkB; go_frame)
             | go_in)
           have HN := Lib.hid (hsB.congr fun y => (HAD.out y).trans (HS.out y))
           have HFB := Lib.hid (HF9.out.then hkB (fun i hi e => by omega))
           clear hsB hkB HS9 HF9 HAD
           go_roundw
           case rel => exact ⟨j + 1, m' + 1, by omega, by go_num, HN, by omega, HFB⟩
           case measure => simp [intOf]; omega
   · obtain rfl : j = PL.length := by omega
     have HS0 := Lib.hid (show FSet wr w.heap.size m (fun y => BegL p PL y ∨ BegK p 0 y) from hs.out.congr fun y => by
       rw [List.take_length]
       exact ⟨Or.inl, fun h => h.elim id (fun ⟨t, ht, _⟩ => by omega)⟩)
     have HWR := Lib.hid hw1.pg
     clear hs hw1
     obtain ⟨wo, rfl⟩ : ∃ wo : World, wo = wr := ⟨_, rfl⟩
     have HF0 := Lib.hid hf.out
     clear hf
     go_wp2
     clear g0 g1 zg1
     go_loopw [53] (fun i wr => ∃ t m' : Nat, t ≤ p.wide.length ∧ i = .int .i64 t ∧ Hid (FSet wr w.heap.size m' (fun y => BegL p PL y ∨ BegK p t y)) ∧ m' ≤ 13 * PL.length + t ∧ Hid (Fr w wr)) (fun i _ => p.wide.length - (intOf i).toNat)
     case atStart => exact ⟨0, m, Nat.zero_le _, rfl, HS0, by omega, HF0⟩
     case round =>
       obtain ⟨t, m', ht, rfl, hs, hm', hf⟩ := hrel
       clear HS0 HF0
       by_cases htl : t < p.wide.length
       · have hx : p.wide[t]? = some (p.wide[t]) := List.getElem?_eq_getElem htl
         obtain ⟨vw, vc, e9, hbb, _⟩ := HW0.out.pg
         obtain ⟨rfl, rfl⟩ : vw = .slice A p.wide.length c ∧ vc = .slice A' p.code.length c' := by simpa [eq_comm] using e9
         obtain ⟨b4, o4, c4, e4, _, hb4, d0⟩ := (hbb.kept hf.out (fun _ _ h => h)).at_ hx
         obtain ⟨rfl, _, rfl⟩ : A = some ⟨b4, o4, none⟩ ∧ True ∧ c = c4 := by simpa using e4
         have HWD := Lib.hid (wd_nat hx)
         clear hx e9 hbb e4
         have ht0 : (0 : Int) ≤ (t : Int) := Int.natCast_nonneg _
         have ht1 : (t : Int) < (p.wide.length : Int) := by omega
         generalize p.wide[t] = x at *
         cases x with
         | true =>
           have HN := Lib.hid (hs.out.congr fun y => or_congr Iff.rfl (begK_no HWD.out))
           clear hs
           go_wp2
           go_roundw
           case rel => exact ⟨t + 1, m', by omega, by go_num, HN, by omega, hf⟩
           case measure => simp [intOf]; omega
         | false =>
           go_wp2_with fail
           refine (known_any (t : Int) 0 _).mono ?_
           rintro e w9 ⟨rfl, f9⟩
           have HS9 := Lib.hid (hs.out.kept f9 (fun h => h))
           have HF9 := Lib.hid (hf.out.trans f9)
           clear f9 hs hf d0 hb4
           go_wp2_with (first
             | (at_mapUpdate; refine wpList_set_store _ rfl _ _ _ rfl setTy w.heap.size m' _ rfl HS9.out (by unfold maxLen; omega) (knF (t : Int) 0) rfl (knF_ok (by unfold inI; omega) (by omega)) rfl ?_; intro wB hsB hkB; go_frame)
             | go_in)
           have HN := Lib.hid (hsB.congr fun y => (or_assoc).trans (or_congr Iff.rfl (begK_yes HWD.out)))
           have HFB := Lib.hid (HF9.out.then hkB (fun i hi e => by omega))
           clear hsB hkB HS9 HF9
           go_roundw
           case rel => exact ⟨t + 1, m' + 1, by omega, by go_num, HN, by omega, HFB⟩
           case measure => simp [intOf]; omega
       · obtain rfl : t = p.wide.length := by omega
         have HE := Lib.hid (FSet.norm (hs.out.congr fun y => HALL.out y) HBIN.out HC.out.w HC.out.c HC.out.s HC.out.l)
         clear hs
         go_wp2
         go_ret
         exact ⟨w.heap.size, rfl, HE.out, hf.out, Nat.le_refl _⟩
end Go.Proofs.YtodmkjeankbieaaGreatDoor


namespace Go.Proofs.YtodmkjeankbieaaGreatDoor
open Go.ChangeShapes Go.WideShapes Go.ChangeAt Go.RowKit Go.Deep

section
variable {H : Type} {enc : TypeId × Value → H} {P : Program} {w : World} {base : Nat} {spare : Nat → Bool} {held : Bool}

end

section
variable {H : Type} {enc : TypeId × Value → H} {w : World} {base : Nat} {spare : Nat → Bool} {held : Bool}

end
end Go.Proofs.YtodmkjeankbieaaGreatDoor


namespace Go.Proofs.YtodmkjeankbieaaGreatDoor
open Go.ChangeShapes Go.WideShapes Go.RowKit

section
variable {H : Type} {enc : TypeId × Value → H} {w : World} {base : Nat} {spare : Nat → Bool} {held : Bool}

end
end Go.Proofs.YtodmkjeankbieaaGreatDoor


namespace Go.Proofs.YtodmkjeankbieaaGreatDoor
open Go.ChangeShapes Go.WideShapes Go.RowKit Go.ChangeAt Go.Deep
section
variable {H : Type} {enc : TypeId × Value → H} {w : World} {base : Nat} {spare : Nat → Bool} {held : Bool}
end
end Go.Proofs.YtodmkjeankbieaaGreatDoor

