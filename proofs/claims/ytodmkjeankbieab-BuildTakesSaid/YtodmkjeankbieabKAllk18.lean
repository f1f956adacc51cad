/- Texts of this claim, packed. -/
import Derived.Test.YtodmkjeankbieabKAllk15
import Derived.Test.YtodmkjeankbieabKAllk16
import Derived.Test.YtodmkjeankbieabKAllk17
import Derived.Test.YtodmkjeankbieabKAllk1
set_option linter.all false
namespace Go.Proofs.Ytodmkjeankbieab
open Go.RowKit Go.Sort Go.Maps

set_option maxRecDepth 100000 in
theorem ins8_any (R : Nat → Prop) (vw vc : Value) (Aa : Option Addr) (ca : Nat) (vst vn : Value) (p : Pg) (ns : List Nat) (sg sl : Nat) (bs : Nat) (s : Bits) (i : In) (a : PlaceV) (w : World)
   (h : W8 w R vw vc Aa ca vst vn p ns sg sl) (hC : Cnd8 p ns sg sl) (hs : Blk w bs 4 (mkB (allFs p ns sg sl).length s)) (ha : gvs i.op = true → isB sg sl a = true) :
   Calls Try.prog 123 #[.agg #[vw, vc, .slice Aa (allFs p ns sg sl).length ca, vst, vn], .slice (some ⟨bs, 0, none⟩) (allFs p ns sg sl).length (allFs p ns sg sl).length, i.val, a.val] w (RowX8 w bs (allFs p ns sg sl).length (insBt (allFs p ns sg sl) s i a)) := by
 cases hg : gvs i.op with
 | true =>
   have e : insBt (allFs p ns sg sl) s i a = giveB (allFs p ns sg sl) s i a := by unfold insBt; rw [if_pos hg]
   rw [e]
   obtain ⟨op, d, ia, ib, ic, n⟩ := i
   have key : Calls Try.prog 123 #[.agg #[vw, vc, .slice Aa (allFs p ns sg sl).length ca, vst, vn], .slice (some ⟨bs, 0, none⟩) (allFs p ns sg sl).length (allFs p ns sg sl).length, (⟨op, d, ia, ib, ic, n⟩ : In).val, a.val] w (Row8 w (allFs p ns sg sl).length (giveB (allFs p ns sg sl) s (⟨op, d, ia, ib, ic, n⟩ : In) a)) := by
     by_cases h1 : op = 1
     · subst h1; exact ins8_const R vw vc Aa ca vst vn p ns sg sl bs s d ia ib ic n a w h hC hs (ha hg)
     · by_cases h2 : op = 2
       · subst h2; exact ins8_move R vw vc Aa ca vst vn p ns sg sl bs s d ia ib ic n a w h hC hs (ha hg)
       · exact ins8_else R vw vc Aa ca vst vn p ns sg sl bs s op d ia ib ic n a w h1 h2 hg h hC hs (ha hg)
   exact key.mono fun e w' ⟨bo, h1, h2, h3, h4⟩ => ⟨bo, h1, Or.inr h2, h3, h4⟩
 | false =>
   have e : insBt (allFs p ns sg sl) s i a = s := by unfold insBt; rw [if_neg (by rw [hg]; decide)]
   rw [e]
   have HS := Lib.hid hs
   have HGV := Lib.hid (fun w2 => refGives_any i.op w2)
   rw [hg] at HGV
   have HF := Lib.hid (show Fr w (((w.alloc (.cells #[vw, vc, .slice Aa (allFs p ns sg sl).length ca, vst, vn] 121)).alloc (.cells #[.int .i64 i.op, .int .i64 i.d, .int .i64 i.a, .int .i64 i.b, .int .i64 i.c, .int .u32 (i.n : Int)] 45)).alloc (.cells #[.int .i64 a.k, .int .i64 a.n] 57)) from (((Kept.refl _ w).alloc _).alloc _).alloc _)
   clear h hC hs hg e
   generalize (allFs p ns sg sl) = all at *
   unfold In.val PlaceV.val
   go_enter Try.func123, Try.ntmps123
   go_wp2_with fail
   refine (HGV.out _).mono ?_
   rintro e w1 ⟨rfl, rfl⟩
   go_wp2
   go_ret
   exact ⟨bs, rfl, Or.inl rfl, HS.out.kept HF.out (fun h => h), HF.out⟩

def tk8 (all : List Fc) (S : Bits) (i : In) (a b : PlaceV) (k : Nat) : Bool := (decide (k = 0) || findB all S (hasF a i.a)) && (decide (k ≤ 1) || findB all S (hasF b i.b))
theorem tk8_all {all : List Fc} {s : Bits} {i : In} {r : Rw} (hk : known i.op = true) : tk8 all (movesB all s r.before) i r.a r.b (many i.op) = tookB all s i r := by
 have hm : many i.op ≤ 2 := by
   unfold many
   split
   · omega
   · split <;> omega
 unfold tk8 tookB
 have h : many i.op = 0 ∨ many i.op = 1 ∨ many i.op = 2 := by omega
 rcases h with h | h | h <;> rw [h] <;> simp
theorem movesB_take {all : List Fc} {s : Bits} {l : List Mv} {k : Nat} {m : Mv} (h : l[k]? = some m) : movesB all s (l.take (k + 1)) = moveB all (movesB all s (l.take k)) m := by
 unfold movesB
 rw [List.take_add_one, h, List.foldl_append]; rfl
def Thru8 (w : World) (bs L : Nat) (F : Bits) (k : Bool) (e : Ending) (w' : World) : Prop := ∃ bo, e = .returned (.tuple #[.slice (some ⟨bo, 0, none⟩) L L, .bool k]) ∧ (bo = bs ∨ w.heap.size ≤ bo) ∧ Blk w' bo 4 (mkB L F) ∧ Fr w w'
structure B8 (w W : World) (c0 c1 c2 : Array Value) : Prop where
 b0 : Blk W w.heap.size 121 c0
 b1 : Blk W (w.heap.size + 1) 45 c1
 b2 : Blk W (w.heap.size + 2) 60 c2
 fr : Fr w W
theorem B8.keep {w W W2 : World} {c0 c1 c2 : Array Value} (h : B8 w W c0 c1 c2) (hk : Fr W W2) : B8 w W2 c0 c1 c2 := ⟨h.b0.kept hk (fun h => h), h.b1.kept hk (fun h => h), h.b2.kept hk (fun h => h), h.fr.trans hk⟩
theorem B8.start (w : World) (c0 c1 c2 : Array Value) : B8 w (((w.alloc (.cells c0 121)).alloc (.cells c1 45)).alloc (.cells c2 60)) c0 c1 c2 := by
 refine ⟨((Blk.new w _ _).alloc _).alloc _, ?_, ?_, (((Kept.refl _ w).alloc _).alloc _).alloc _⟩
 · have := (Blk.new (w.alloc (.cells c0 121)) 45 c1).alloc (.cells c2 60)
   simpa using this
 · have := Blk.new ((w.alloc (.cells c0 121)).alloc (.cells c1 45)) 60 c2
   simpa using this

set_option maxHeartbeats 16000000 in
set_option maxRecDepth 100000 in
theorem through8_any (R : Nat → Prop) (vw vc : Value) (Aa : Option Addr) (ca : Nat) (vst vn : Value) (p : Pg) (ns : List Nat) (sg sl : Nat) (R' : Nat → Prop) (bs : Nat) (s : Bits) (i : In) (x : RwV) (w : World)
   (h : W8 w R vw vc Aa ca vst vn p ns sg sl) (hC : Cnd8 p ns sg sl) (hs : Blk w bs 4 (mkB (allFs p ns sg sl).length s)) (hi : InsOk p i) (hr : rwB p sg sl i x.r = true) (hx : x.ok w R') :
   Calls Try.prog 98 #[.agg #[vw, vc, .slice Aa (allFs p ns sg sl).length ca, vst, vn], .slice (some ⟨bs, 0, none⟩) (allFs p ns sg sl).length (allFs p ns sg sl).length, i.val, x.val] w (Thru8 w bs (allFs p ns sg sl).length (thruB (allFs p ns sg sl) s i x.r) (tookB (allFs p ns sg sl) s i x.r)) := by
 obtain ⟨r1, r2, r3, r4, r5, _⟩ := rwB_facts hr hi.kn
 have hL := hC.len
 obtain ⟨_, _, _, rbf, raf⟩ := hx
 have HMOV := Lib.hid (fun b2 s2 m w2 (hf : Fr w w2) (hs2 : Blk w2 b2 4 (mkB (allFs p ns sg sl).length s2)) (hm : mvB sg sl m = true) (hmn : m.n < 4294967296) => move8_any R vw vc Aa ca vst vn p ns sg sl b2 s2 m w2 (h.fr hf) hC hs2 hm hmn)
 have HFIN := Lib.hid (fun b2 s2 f w2 (hf : Fr w w2) (hs2 : Blk w2 b2 4 (mkB (allFs p ns sg sl).length s2)) (hf' : f.pl = ⟨0, 0⟩ ∨ isB sg sl f.pl = true) => find8_any R vw vc Aa ca vst vn p ns sg sl b2 s2 f w2 (h.fr hf) hC hs2 hf')
 have HINS := Lib.hid (fun b2 s2 w2 (hf : Fr w w2) (hs2 : Blk w2 b2 4 (mkB (allFs p ns sg sl).length s2)) => ins8_any R vw vc Aa ca vst vn p ns sg sl b2 s2 i x.r.d w2 (h.fr hf) hC hs2 (fun hg => (r3 hg).2))
 have HUSE := Lib.hid (fun w2 => refUses_any i w2)
 have hmy : many i.op ≤ 2 := by
   unfold many
   split
   · omega
   · split <;> omega
 have HTK := Lib.hid (tk8_all (all := (allFs p ns sg sl)) (s := s) (r := x.r) hi.kn)
 have HIA := Lib.hid (fun (h0 : 0 < many i.op) => (r4 h0).2)
 have HIB := Lib.hid (fun (h0 : 1 < many i.op) => (r5 h0).2)
 obtain ⟨Ab, cb, hvb, hlb, hrb, hob⟩ := rbf
 obtain ⟨Af, cf, hva, hla, hra, hoa⟩ := raf
 have HRB := Lib.hid hrb
 have HRA := Lib.hid hra
 have HM1 := Lib.hid (fun m hm => (⟨r1 m hm, (hob m hm).2.2⟩ : mvB sg sl m = true ∧ m.n < 4294967296))
 have HM2 := Lib.hid (fun m hm => (⟨r2 m hm, (hoa m hm).2.2⟩ : mvB sg sl m = true ∧ m.n < 4294967296))
 have HS := Lib.hid hs
 have HDEF : Hid (∀ (e : Ending) (w' : World), (∃ bo, e = .returned (.tuple #[.slice (some ⟨bo, 0, none⟩) (allFs p ns sg sl).length (allFs p ns sg sl).length, .bool (tookB (allFs p ns sg sl) s i x.r)]) ∧ (bo = bs ∨ w.heap.size ≤ bo) ∧ Blk w' bo 4 (mkB (allFs p ns sg sl).length (movesB (allFs p ns sg sl) (insBt (allFs p ns sg sl) (movesB (allFs p ns sg sl) s x.r.before) i x.r.d) x.r.after)) ∧ Fr w w') → Thru8 w bs (allFs p ns sg sl).length (thruB (allFs p ns sg sl) s i x.r) (tookB (allFs p ns sg sl) s i x.r) e w') := fun _ _ h => h
 unfold maxLen at hlb hla
 clear h hC hs r1 r2 r3 r4 r5 hr hrb hra hob hoa
 generalize (allFs p ns sg sl) = all at *
 have HT0 : Hid (∀ S, tk8 all S i x.r.a x.r.b 0 = true) := fun S => by simp [tk8]
 have HT1 : Hid (∀ S, tk8 all S i x.r.a x.r.b 1 = findB all S (hasF x.r.a i.a)) := fun S => by simp [tk8]
 have HT2 : Hid (∀ S, tk8 all S i x.r.a x.r.b 2 = (tk8 all S i x.r.a x.r.b 1 && findB all S (hasF x.r.b i.b))) := fun S => by simp [tk8]
 generalize hm0 : many i.op = mny at *
 generalize tookB all s i x.r = took at *
 obtain ⟨op, d, ia, ib, ic, n⟩ := i
 obtain ⟨⟨⟨dk, dn⟩, ⟨ak, an⟩, ⟨bk, bn⟩, bef, aft⟩, vb, va⟩ := x
 simp only at hvb hva HIA HIB HTK HT0 HT1 HT2 HM1 HM2 HRB HRA hlb hla HINS HDEF
 subst hvb hva
 clear hm0
 unfold In.val RwV.val
 unfold In.val PlaceV.val at HINS
 unfold In.val at HUSE
 simp only at HUSE HINS ⊢
 have H0 := Lib.hid (B8.start w #[vw, vc, .slice Aa all.length ca, vst, vn] #[.int .i64 op, .int .i64 d, .int .i64 ia, .int .i64 ib, .int .i64 ic, .int .u32 (n : Int)] #[.int .i64 dk, .int .i64 dn, .int .i64 ak, .int .i64 an, .int .i64 bk, .int .i64 bn, .slice Ab bef.length cb, .slice Af aft.length cf])
 go_enter Try.func98, Try.ntmps98
 go_wp2
 go_loopw [1, 10] (fun sv i wr => ∃ k b' : Nat, k ≤ bef.length ∧ sv = .slice (some ⟨b', 0, none⟩) all.length all.length ∧ i = .int .i64 k ∧ Hid (Blk wr b' 4 (mkB all.length (movesB all s (bef.take k)))) ∧ Hid (B8 w wr #[vw, vc, .slice Aa all.length ca, vst, vn] #[.int .i64 op, .int .i64 d, .int .i64 ia, .int .i64 ib, .int .i64 ic, .int .u32 (n : Int)] #[.int .i64 dk, .int .i64 dn, .int .i64 ak, .int .i64 an, .int .i64 bk, .int .i64 bn, .slice Ab bef.length cb, .slice Af aft.length cf]) ∧ (b' = bs ∨ w.heap.size ≤ b')) (fun _ i _ => bef.length - (intOf i).toNat)
 case atStart => exact ⟨0, _, Nat.zero_le _, rfl, rfl, (by simpa [movesB] using Lib.hid (HS.out.kept H0.out.fr (fun h => h))), H0, Or.inl rfl⟩
 case round =>
   obtain ⟨k, b', hk, rfl, rfl, HB, HX, hb'⟩ := hrel
   have r6 := HX.out.b2.cell 6
   have zr := HX.out.b2.lt
   simp only [List.getElem?_toArray, List.getElem?_cons_succ, List.getElem?_cons_zero] at r6
   have hk0 : (0 : Int) ≤ (k : Int) := Int.natCast_nonneg _
   by_cases hlt : k < bef.length
   · obtain ⟨m, hx⟩ : ∃ m, bef[k]? = some m := ⟨_, List.getElem?_eq_getElem hlt⟩
     have hk1 : (k : Int) < (bef.length : Int) := by omega
     have HT : Hid (movesB all s (bef.take (k + 1)) = moveB all (movesB all s (bef.take k)) m) := movesB_take hx
     have HMK := Lib.hid (HM1.out m (List.mem_of_getElem? hx))
     obtain ⟨bm, om, rfl, _, c0, c1, c2, c3, c4, c5⟩ := (HRB.out.kept HX.out.fr (fun _ _ h => h)).mv hx
     have zm := cell_lt c0
     have HMV := Lib.hid (HMOV.out b' (movesB all s (bef.take k)) m wr.drew (HX.out.fr.trans ((Kept.refl (fun _ => False) wr).drew)) HB.out.drew HMK.out.1 HMK.out.2)
     clear hx
     obtain ⟨⟨tk, tn⟩, ⟨fk, fn⟩, mc, mn⟩ := m
     unfold Mv.fval at HMV
     simp only at c0 c1 c2 c3 c4 c5 HMV
     have w0 := HX.out.b0.cell 0
     have w1' := HX.out.b0.cell 1
     have w2' := HX.out.b0.cell 2
     have w3' := HX.out.b0.cell 3
     have w4' := HX.out.b0.cell 4
     have zw := HX.out.b0.lt
     simp only [List.getElem?_toArray, List.getElem?_cons_succ, List.getElem?_cons_zero] at w0 w1' w2' w3' w4'
     go_wp2
     go_region_held3 (fun w' => w'.cell? ⟨w.heap.size, 0, none⟩ = some vw ∧ w'.cell? ⟨w.heap.size, 1, none⟩ = some vc ∧ w'.cell? ⟨w.heap.size, 2, none⟩ = some (.slice Aa all.length ca) ∧ w'.cell? ⟨w.heap.size, 3, none⟩ = some vst ∧ w'.cell? ⟨w.heap.size, 4, none⟩ = some vn ∧ w'.cell? ⟨w.heap.size + 2, 6, none⟩ = some (.slice (some ⟨bm, om, none⟩) bef.length cb) ∧ w'.cell? ⟨bm, om + k * 6, none⟩ = some (.int .i64 tk) ∧ w'.cell? ⟨bm, om + k * 6 + 1, none⟩ = some (.int .i64 tn) ∧ w'.cell? ⟨bm, om + k * 6 + 2, none⟩ = some (.int .i64 fk) ∧ w'.cell? ⟨bm, om + k * 6 + 3, none⟩ = some (.int .i64 fn) ∧ w'.cell? ⟨bm, om + k * 6 + 4, none⟩ = some (.bool mc) ∧ w'.cell? ⟨bm, om + k * 6 + 5, none⟩ = some (.int .u32 (mn : Int)))
       (first
         | go_keep
         | exact sa)
       ((go_at_call 121; refine HMV.out.mono ?_; rintro e wa ⟨bo, rfl, hbo, hBo, fa⟩; have sa := (show wa.cell? ⟨w.heap.size, 0, none⟩ = some vw ∧ wa.cell? ⟨w.heap.size, 1, none⟩ = some vc ∧ wa.cell? ⟨w.heap.size, 2, none⟩ = some (.slice Aa all.length ca) ∧ wa.cell? ⟨w.heap.size, 3, none⟩ = some vst ∧ wa.cell? ⟨w.heap.size, 4, none⟩ = some vn ∧ wa.cell? ⟨w.heap.size + 2, 6, none⟩ = some (.slice (some ⟨bm, om, none⟩) bef.length cb) ∧ wa.cell? ⟨bm, om + k * 6, none⟩ = some (.int .i64 tk) ∧ wa.cell? ⟨bm, om + k * 6 + 1, none⟩ = some (.int .i64 tn) ∧ wa.cell? ⟨bm, om + k * 6 + 2, none⟩ = some (.int .i64 fk) ∧ wa.cell? ⟨bm, om + k * 6 + 3, none⟩ = some (.int .i64 fn) ∧ wa.cell? ⟨bm, om + k * 6 + 4, none⟩ = some (.bool mc) ∧ wa.cell? ⟨bm, om + k * 6 + 5, none⟩ = some (.int .u32 (mn : Int)) from ⟨(fa.cell zw).trans w0, (fa.cell zw).trans w1', (fa.cell zw).trans w2', (fa.cell zw).trans w3', (fa.cell zw).trans w4', (fa.cell zr).trans r6, (fa.cell zm).trans c0, (fa.cell zm).trans c1, (fa.cell zm).trans c2, (fa.cell zm).trans c3, (fa.cell zm).trans c4, (fa.cell zm).trans c5⟩)))
     rename_i hHeld
     clear hHeld sa
     have HBO := Lib.hid hBo
     have HXO := Lib.hid (HX.out.keep (((Kept.refl (fun _ => False) wr).drew).trans fa))
     have hbo2 : bo = bs ∨ w.heap.size ≤ bo := Or.inr (Nat.le_trans HX.out.fr.size hbo)
     clear hBo fa hbo w0 w1' w2' w3' w4' c0 c1 c2 c3 c4 c5 HMV
     go_wp2
     go_roundw
     case rel => exact ⟨k + 1, bo, by omega, rfl, by go_num, by rw [HT.out]; exact HBO, HXO, hbo2⟩
     case measure => simp [intOf]; omega
   · obtain rfl : k = bef.length := by omega
     have HB1 := Lib.hid (show Blk wr b' 4 (mkB all.length (movesB all s bef)) from by have := HB.out; rw [List.take_length] at this; exact this)
     generalize movesB all s bef = S1 at *
     clear HB hk0
     have i0 := HX.out.b1.cell 0
     have i1 := HX.out.b1.cell 1
     have i2 := HX.out.b1.cell 2
     have i3 := HX.out.b1.cell 3
     have i4 := HX.out.b1.cell 4
     have i5 := HX.out.b1.cell 5
     have zi := HX.out.b1.lt
     simp only [List.getElem?_toArray, List.getElem?_cons_succ, List.getElem?_cons_zero] at i0 i1 i2 i3 i4 i5
     go_wp2_with fail
     refine (HUSE.out _).mono ?_
     rintro e w2 ⟨gu, rfl, hgu, hub, f2⟩
     have HX2 := Lib.hid (HX.out.keep f2)
     have HB2 := Lib.hid (HB1.out.kept f2 (fun h => h))
     have HUB := Lib.hid hub
     clear hub f2 i0 i1 i2 i3 i4 i5 zi HX HB1 r6 zr
     go_wp2
     go_loopw [12, 13] (fun okv i wr => ∃ j : Nat, j ≤ mny ∧ okv = .bool (tk8 all S1 (⟨op, d, ia, ib, ic, n⟩ : In) ⟨ak, an⟩ ⟨bk, bn⟩ j) ∧ i = .int .i64 j ∧ Hid (Fr w2 wr)) (fun _ i _ => mny - (intOf i).toNat)
     case atStart => exact ⟨0, Nat.zero_le _, by rw [HT0.out], rfl, Lib.hid (Kept.refl _ w2)⟩
     case round =>
       obtain ⟨j, hj, rfl, rfl, HF⟩ := hrel
       have HX3 := Lib.hid (HX2.out.keep HF.out)
       have HB3 := Lib.hid (HB2.out.kept HF.out (fun h => h))
       have hU3 := HUB.out.kept HF.out (fun h => h)
       have u0 := hU3.cell 0
       have u1 := hU3.cell 1
       have zu := hU3.lt
       have w0 := HX3.out.b0.cell 0
       have w1' := HX3.out.b0.cell 1
       have w2' := HX3.out.b0.cell 2
       have w3' := HX3.out.b0.cell 3
       have w4' := HX3.out.b0.cell 4
       have zw := HX3.out.b0.lt
       simp only [List.getElem?_toArray, List.getElem?_cons_succ, List.getElem?_cons_zero] at u0 u1 w0 w1' w2' w3' w4'
       have hj0 : (0 : Int) ≤ (j : Int) := Int.natCast_nonneg _
       by_cases hjl : j < mny
       · have hj1 : (j : Int) < (mny : Int) := by omega
         have ra := HX3.out.b2.cell 2
         have ra' := HX3.out.b2.cell 3
         have rb := HX3.out.b2.cell 4
         have rb' := HX3.out.b2.cell 5
         have zr := HX3.out.b2.lt
         simp only [List.getElem?_toArray, List.getElem?_cons_succ, List.getElem?_cons_zero] at ra ra' rb rb'
         clear hU3
         have hj2 : j = 0 ∨ j = 1 := by omega
         rcases hj2 with rfl | rfl
         · rw [HT0.out]
           have hcast : ((0 : Nat) : Int) = 0 := rfl
           have hk2 : (0 : Int) < (mny : Int) := by omega
           have hjb : ((0 : Int) == 1) = false := rfl
           have HFX : Hid (Calls Try.prog 122 #[.agg #[vw, vc, .slice Aa all.length ca, vst, vn], .slice (some ⟨b', 0, none⟩) all.length all.length, .agg #[.int .i64 ak, .int .i64 an, .bool true, .int .i64 ia, .int .u32 0]] (wr.alloc (.cells #[.int .i64 ak, .int .i64 an] 57)).drew fun e w' => e = .returned (.bool (findB all S1 (hasF ⟨ak, an⟩ ia))) ∧ Fr (wr.alloc (.cells #[.int .i64 ak, .int .i64 an] 57)).drew w') := HFIN.out b' S1 (hasF ⟨ak, an⟩ ia) _ ((HX3.out.fr.alloc _).drew) ((HB3.out.alloc _).drew) (Or.inr (HIA.out (by omega)))
           have hpb := Blk.new wr 57 #[.int .i64 ak, .int .i64 an]
           have k0 : Fr wr (wr.alloc (.cells #[.int .i64 ak, .int .i64 an] 57)) := (Kept.refl _ wr).alloc _
           obtain ⟨wp, hwp⟩ : ∃ wp : World, wp = wr.alloc (.cells #[.int .i64 ak, .int .i64 an] 57) := ⟨_, rfl⟩
           rw [← hwp] at hpb k0 HFX
           have HWP := Lib.hid hwp
           have a0 := hpb.cell 0
           have a1 := hpb.cell 1
           have za := hpb.lt
           simp only [List.getElem?_toArray, List.getElem?_cons_succ, List.getElem?_cons_zero] at a0 a1
           have v0 := (k0.cell zw).trans w0
           have v1 := (k0.cell zw).trans w1'
           have v2 := (k0.cell zw).trans w2'
           have v3 := (k0.cell zw).trans w3'
           have v4 := (k0.cell zw).trans w4'
           have uu := (k0.cell zu).trans u0
           have HK0 := Lib.hid k0
           have zw2 := Nat.lt_of_lt_of_le zw k0.size
           have zu2 := Nat.lt_of_lt_of_le zu k0.size
           clear hwp hpb k0
           go_wp2
           rw [← HWP.out]
           clear w0 w1' w2' w3' w4' zw u0 u1 zu ra ra' rb rb' zr
           go_region_held3 (fun w' => w'.cell? ⟨w.heap.size, 0, none⟩ = some vw ∧ w'.cell? ⟨w.heap.size, 1, none⟩ = some vc ∧ w'.cell? ⟨w.heap.size, 2, none⟩ = some (.slice Aa all.length ca) ∧ w'.cell? ⟨w.heap.size, 3, none⟩ = some vst ∧ w'.cell? ⟨w.heap.size, 4, none⟩ = some vn ∧ w'.cell? ⟨wr.heap.size, 0, none⟩ = some (.int .i64 ak) ∧ w'.cell? ⟨wr.heap.size, 1, none⟩ = some (.int .i64 an) ∧ w'.cell? ⟨gu, 0, none⟩ = some (.int .i64 ia))
             (first
               | go_keep
               | exact sa)
             ((go_at_call 122; refine HFX.out.mono ?_; rintro e wa ⟨rfl, fa⟩; have sa := (show wa.cell? ⟨w.heap.size, 0, none⟩ = some vw ∧ wa.cell? ⟨w.heap.size, 1, none⟩ = some vc ∧ wa.cell? ⟨w.heap.size, 2, none⟩ = some (.slice Aa all.length ca) ∧ wa.cell? ⟨w.heap.size, 3, none⟩ = some vst ∧ wa.cell? ⟨w.heap.size, 4, none⟩ = some vn ∧ wa.cell? ⟨wr.heap.size, 0, none⟩ = some (.int .i64 ak) ∧ wa.cell? ⟨wr.heap.size, 1, none⟩ = some (.int .i64 an) ∧ wa.cell? ⟨gu, 0, none⟩ = some (.int .i64 ia) from ⟨(fa.cell zw2).trans v0, (fa.cell zw2).trans v1, (fa.cell zw2).trans v2, (fa.cell zw2).trans v3, (fa.cell zw2).trans v4, (fa.cell za).trans a0, (fa.cell za).trans a1, (fa.cell zu2).trans uu⟩)))
           rename_i hHeld
           clear hHeld sa
           have HF9 := Lib.hid (HF.out.trans (HK0.out.trans (((Kept.refl (fun _ => False) wp).drew).trans fa)))
           clear v0 v1 v2 v3 v4 uu a0 a1 za zw2 zu2 fa HFX HWP HK0
           go_wp2
           go_roundw
           case rel => exact ⟨0 + 1, by omega, by rw [HT1.out], (by first | rfl | go_num), HF9⟩
           case measure => simp [intOf]; omega
         · cases htk : tk8 all S1 (⟨op, d, ia, ib, ic, n⟩ : In) ⟨ak, an⟩ ⟨bk, bn⟩ 1 with
           | false =>
             have HTF := Lib.hid htk
             clear htk
             have hjb : ((1 : Int) == 1) = true := rfl
             go_wp2
             go_quiet (fail)
             go_wp2
             go_roundw
             case rel => exact ⟨1 + 1, by omega, by rw [HT2.out, HTF.out]; rfl, (by first | rfl | go_num), Lib.hid ((HF.out.alloc _).drewN _)⟩
             case measure => simp [intOf]; omega
           | true =>
             have HTF := Lib.hid htk
             clear htk
             have hcast : ((1 : Nat) : Int) = 1 := rfl
             have hk2 : (1 : Int) < (mny : Int) := by omega
             have hjb : ((1 : Int) == 1) = true := rfl
             have HFX : Hid (Calls Try.prog 122 #[.agg #[vw, vc, .slice Aa all.length ca, vst, vn], .slice (some ⟨b', 0, none⟩) all.length all.length, .agg #[.int .i64 bk, .int .i64 bn, .bool true, .int .i64 ib, .int .u32 0]] (wr.alloc (.cells #[.int .i64 bk, .int .i64 bn] 57)).drew fun e w' => e = .returned (.bool (findB all S1 (hasF ⟨bk, bn⟩ ib))) ∧ Fr (wr.alloc (.cells #[.int .i64 bk, .int .i64 bn] 57)).drew w') := HFIN.out b' S1 (hasF ⟨bk, bn⟩ ib) _ ((HX3.out.fr.alloc _).drew) ((HB3.out.alloc _).drew) (Or.inr (HIB.out (by omega)))
             have hpb := Blk.new wr 57 #[.int .i64 bk, .int .i64 bn]
             have k0 : Fr wr (wr.alloc (.cells #[.int .i64 bk, .int .i64 bn] 57)) := (Kept.refl _ wr).alloc _
             obtain ⟨wp, hwp⟩ : ∃ wp : World, wp = wr.alloc (.cells #[.int .i64 bk, .int .i64 bn] 57) := ⟨_, rfl⟩
             rw [← hwp] at hpb k0 HFX
             have HWP := Lib.hid hwp
             have a0 := hpb.cell 0
             have a1 := hpb.cell 1
             have za := hpb.lt
             simp only [List.getElem?_toArray, List.getElem?_cons_succ, List.getElem?_cons_zero] at a0 a1
             have v0 := (k0.cell zw).trans w0
             have v1 := (k0.cell zw).trans w1'
             have v2 := (k0.cell zw).trans w2'
             have v3 := (k0.cell zw).trans w3'
             have v4 := (k0.cell zw).trans w4'
             have uu := (k0.cell zu).trans u1
             have HK0 := Lib.hid k0
             have zw2 := Nat.lt_of_lt_of_le zw k0.size
             have zu2 := Nat.lt_of_lt_of_le zu k0.size
             clear hwp hpb k0
             go_wp2
             rw [← HWP.out]
             clear w0 w1' w2' w3' w4' zw u0 u1 zu ra ra' rb rb' zr
             go_region_held3 (fun w' => w'.cell? ⟨w.heap.size, 0, none⟩ = some vw ∧ w'.cell? ⟨w.heap.size, 1, none⟩ = some vc ∧ w'.cell? ⟨w.heap.size, 2, none⟩ = some (.slice Aa all.length ca) ∧ w'.cell? ⟨w.heap.size, 3, none⟩ = some vst ∧ w'.cell? ⟨w.heap.size, 4, none⟩ = some vn ∧ w'.cell? ⟨wr.heap.size, 0, none⟩ = some (.int .i64 bk) ∧ w'.cell? ⟨wr.heap.size, 1, none⟩ = some (.int .i64 bn) ∧ w'.cell? ⟨gu, 1, none⟩ = some (.int .i64 ib))
               (first
                 | go_keep
                 | exact sa)
               ((go_at_call 122; refine HFX.out.mono ?_; rintro e wa ⟨rfl, fa⟩; have sa := (show wa.cell? ⟨w.heap.size, 0, none⟩ = some vw ∧ wa.cell? ⟨w.heap.size, 1, none⟩ = some vc ∧ wa.cell? ⟨w.heap.size, 2, none⟩ = some (.slice Aa all.length ca) ∧ wa.cell? ⟨w.heap.size, 3, none⟩ = some vst ∧ wa.cell? ⟨w.heap.size, 4, none⟩ = some vn ∧ wa.cell? ⟨wr.heap.size, 0, none⟩ = some (.int .i64 bk) ∧ wa.cell? ⟨wr.heap.size, 1, none⟩ = some (.int .i64 bn) ∧ wa.cell? ⟨gu, 1, none⟩ = some (.int .i64 ib) from ⟨(fa.cell zw2).trans v0, (fa.cell zw2).trans v1, (fa.cell zw2).trans v2, (fa.cell zw2).trans v3, (fa.cell zw2).trans v4, (fa.cell za).trans a0, (fa.cell za).trans a1, (fa.cell zu2).trans uu⟩)))
             rename_i hHeld
             clear hHeld sa
             have HF9 := Lib.hid (HF.out.trans (HK0.out.trans (((Kept.refl (fun _ => False) wp).drew).trans fa)))
             clear v0 v1 v2 v3 v4 uu a0 a1 za zw2 zu2 fa HFX HWP HK0
             go_wp2
             go_roundw
             case rel => exact ⟨1 + 1, by omega, by rw [HT2.out, HTF.out]; rfl, (by first | rfl | go_num), HF9⟩
             case measure => simp [intOf]; omega
       · obtain rfl : j = mny := by omega
         have HBK := Lib.hid (HTK.out)
         rw [HBK.out]
         have i0 := HX3.out.b1.cell 0
         have i1 := HX3.out.b1.cell 1
         have i2 := HX3.out.b1.cell 2
         have i3 := HX3.out.b1.cell 3
         have i4 := HX3.out.b1.cell 4
         have i5 := HX3.out.b1.cell 5
         have zi := HX3.out.b1.lt
         have g0 := HX3.out.b2.cell 0
         have g1 := HX3.out.b2.cell 1
         have zr := HX3.out.b2.lt
         simp only [List.getElem?_toArray, List.getElem?_cons_succ, List.getElem?_cons_zero] at i0 i1 i2 i3 i4 i5 g0 g1
         clear hU3
         have HIN := Lib.hid (HINS.out b' S1 wr HX3.out.fr HB3.out)
         generalize insBt all S1 (⟨op, d, ia, ib, ic, n⟩ : In) ⟨dk, dn⟩ = S2 at *
         go_wp2_with fail
         refine HIN.out.mono ?_
         rintro e w4 ⟨b4, rfl, hb4, hB4, f4⟩
         have HB4 := Lib.hid hB4
         have HX4 := Lib.hid (HX3.out.keep f4)
         have hb4' : b4 = bs ∨ w.heap.size ≤ b4 := by
           rcases hb4 with e | e
           · rw [e]; exact hb'
           · exact Or.inr (Nat.le_trans HX3.out.fr.size e)
         clear hB4 f4 hb4 HIN HX3 HB3 u0 u1 zu w0 w1' w2' w3' w4' zw i0 i1 i2 i3 i4 i5 zi g0 g1 zr HB2 HX2 HUB HF
         go_wp2
         go_loopw [1, 15] (fun sv i wr => ∃ k b' : Nat, k ≤ aft.length ∧ sv = .slice (some ⟨b', 0, none⟩) all.length all.length ∧ i = .int .i64 k ∧ Hid (Blk wr b' 4 (mkB all.length (movesB all S2 (aft.take k)))) ∧ Hid (B8 w wr #[vw, vc, .slice Aa all.length ca, vst, vn] #[.int .i64 op, .int .i64 d, .int .i64 ia, .int .i64 ib, .int .i64 ic, .int .u32 (n : Int)] #[.int .i64 dk, .int .i64 dn, .int .i64 ak, .int .i64 an, .int .i64 bk, .int .i64 bn, .slice Ab bef.length cb, .slice Af aft.length cf]) ∧ (b' = bs ∨ w.heap.size ≤ b')) (fun _ i _ => aft.length - (intOf i).toNat)
         case atStart => exact ⟨0, _, Nat.zero_le _, rfl, rfl, (by simpa [movesB] using HB4), HX4, hb4'⟩
         case round =>
           obtain ⟨k, b', hk, rfl, rfl, HB, HX, hb'⟩ := hrel
           have r7 := HX.out.b2.cell 7
           have zr := HX.out.b2.lt
           simp only [List.getElem?_toArray, List.getElem?_cons_succ, List.getElem?_cons_zero] at r7
           have hk0 : (0 : Int) ≤ (k : Int) := Int.natCast_nonneg _
           by_cases hlt : k < aft.length
           · obtain ⟨m, hx⟩ : ∃ m, aft[k]? = some m := ⟨_, List.getElem?_eq_getElem hlt⟩
             have hk1 : (k : Int) < (aft.length : Int) := by omega
             have HT : Hid (movesB all S2 (aft.take (k + 1)) = moveB all (movesB all S2 (aft.take k)) m) := movesB_take hx
             have HMK := Lib.hid (HM2.out m (List.mem_of_getElem? hx))
             obtain ⟨bm, om, rfl, _, c0, c1, c2, c3, c4, c5⟩ := (HRA.out.kept HX.out.fr (fun _ _ h => h)).mv hx
             have zm := cell_lt c0
             have HMV := Lib.hid (HMOV.out b' (movesB all S2 (aft.take k)) m wr.drew (HX.out.fr.trans ((Kept.refl (fun _ => False) wr).drew)) HB.out.drew HMK.out.1 HMK.out.2)
             clear hx
             obtain ⟨⟨tk, tn⟩, ⟨fk, fn⟩, mc, mn⟩ := m
             unfold Mv.fval at HMV
             simp only at c0 c1 c2 c3 c4 c5 HMV
             have w0 := HX.out.b0.cell 0
             have w1' := HX.out.b0.cell 1
             have w2' := HX.out.b0.cell 2
             have w3' := HX.out.b0.cell 3
             have w4' := HX.out.b0.cell 4
             have zw := HX.out.b0.lt
             simp only [List.getElem?_toArray, List.getElem?_cons_succ, List.getElem?_cons_zero] at w0 w1' w2' w3' w4'
             go_wp2
             go_region_held3 (fun w' => w'.cell? ⟨w.heap.size, 0, none⟩ = some vw ∧ w'.cell? ⟨w.heap.size, 1, none⟩ = some vc ∧ w'.cell? ⟨w.heap.size, 2, none⟩ = some (.slice Aa all.length ca) ∧ w'.cell? ⟨w.heap.size, 3, none⟩ = some vst ∧ w'.cell? ⟨w.heap.size, 4, none⟩ = some vn ∧ w'.cell? ⟨w.heap.size + 2, 7, none⟩ = some (.slice (some ⟨bm, om, none⟩) aft.length cf) ∧ w'.cell? ⟨bm, om + k * 6, none⟩ = some (.int .i64 tk) ∧ w'.cell? ⟨bm, om + k * 6 + 1, none⟩ = some (.int .i64 tn) ∧ w'.cell? ⟨bm, om + k * 6 + 2, none⟩ = some (.int .i64 fk) ∧ w'.cell? ⟨bm, om + k * 6 + 3, none⟩ = some (.int .i64 fn) ∧ w'.cell? ⟨bm, om + k * 6 + 4, none⟩ = some (.bool mc) ∧ w'.cell? ⟨bm, om + k * 6 + 5, none⟩ = some (.int .u32 (mn : Int)))
               (first
                 | go_keep
                 | exact sa)
               ((go_at_call 121; refine HMV.out.mono ?_; rintro e wa ⟨bo, rfl, hbo, hBo, fa⟩; have sa := (show wa.cell? ⟨w.heap.size, 0, none⟩ = some vw ∧ wa.cell? ⟨w.heap.size, 1, none⟩ = some vc ∧ wa.cell? ⟨w.heap.size, 2, none⟩ = some (.slice Aa all.length ca) ∧ wa.cell? ⟨w.heap.size, 3, none⟩ = some vst ∧ wa.cell? ⟨w.heap.size, 4, none⟩ = some vn ∧ wa.cell? ⟨w.heap.size + 2, 7, none⟩ = some (.slice (some ⟨bm, om, none⟩) aft.length cf) ∧ wa.cell? ⟨bm, om + k * 6, none⟩ = some (.int .i64 tk) ∧ wa.cell? ⟨bm, om + k * 6 + 1, none⟩ = some (.int .i64 tn) ∧ wa.cell? ⟨bm, om + k * 6 + 2, none⟩ = some (.int .i64 fk) ∧ wa.cell? ⟨bm, om + k * 6 + 3, none⟩ = some (.int .i64 fn) ∧ wa.cell? ⟨bm, om + k * 6 + 4, none⟩ = some (.bool mc) ∧ wa.cell? ⟨bm, om + k * 6 + 5, none⟩ = some (.int .u32 (mn : Int)) from ⟨(fa.cell zw).trans w0, (fa.cell zw).trans w1', (fa.cell zw).trans w2', (fa.cell zw).trans w3', (fa.cell zw).trans w4', (fa.cell zr).trans r7, (fa.cell zm).trans c0, (fa.cell zm).trans c1, (fa.cell zm).trans c2, (fa.cell zm).trans c3, (fa.cell zm).trans c4, (fa.cell zm).trans c5⟩)))
             rename_i hHeld
             clear hHeld sa
             have HBO := Lib.hid hBo
             have HXO := Lib.hid (HX.out.keep (((Kept.refl (fun _ => False) wr).drew).trans fa))
             have hbo2 : bo = bs ∨ w.heap.size ≤ bo := Or.inr (Nat.le_trans HX.out.fr.size hbo)
             clear hBo fa hbo w0 w1' w2' w3' w4' c0 c1 c2 c3 c4 c5 HMV
             go_wp2
             go_roundw
             case rel => exact ⟨k + 1, bo, by omega, rfl, by go_num, by rw [HT.out]; exact HBO, HXO, hbo2⟩
             case measure => simp [intOf]; omega
           · obtain rfl : k = aft.length := by omega
             have HE := Lib.hid (show Blk wr b' 4 (mkB all.length (movesB all S2 aft)) from by have := HB.out; rw [List.take_length] at this; exact this)
             go_wp2
             go_ret2
             exact HDEF.out _ _ ⟨b', rfl, hb', HE.out, HX.out.fr⟩
end Go.Proofs.Ytodmkjeankbieab


namespace Go.Proofs.Ytodmkjeankbieab
open Go.RowKit Go.Sort Go.Maps

def rowV (b L : Nat) : Value := .slice (some ⟨b, 0, none⟩) L L
structure Ini8 (w wr : World) (cw cl : Array Value) (g gc : Nat) (bk : Nat → Nat) (n L m k : Nat) : Prop where
 b0 : Blk wr w.heap.size 121 cw
 b1 : Blk wr (w.heap.size + 1) 50 cl
 gs : Blk wr g 22 (mkS n fun j => if j < m then rowV (bk j) L else .slice none 0 0)
 cm : Blk wr gc 4 (mkB n fun k => decide (k = 0))
 row : ∀ j, j < k → Blk wr (bk j) 4 (mkB L fun _ => true)
 inj : ∀ i j, i < k → j < k → bk i = bk j → i = j
 ne : ∀ j, j < k → bk j ≠ gc
 lo : w.heap.size + 1 < g ∧ w.heap.size + 1 < gc ∧ ∀ j, j < k → w.heap.size + 1 < bk j
 fr : Fr w wr
structure Mem8 (w wr : World) (cw cl : Array Value) (g gc : Nat) (bk : Nat → Nat) (n L : Nat) (S : Nat → Bits) (c : Bits) : Prop where
 b0 : Blk wr w.heap.size 121 cw
 b1 : Blk wr (w.heap.size + 1) 50 cl
 gs : Blk wr g 22 (mkS n fun j => rowV (bk j) L)
 cm : Blk wr gc 4 (mkB n c)
 row : ∀ j, j < n → Blk wr (bk j) 4 (mkB L (S j))
 inj : ∀ i j, i < n → j < n → bk i = bk j → i = j
 ne : ∀ j, j < n → bk j ≠ gc
 lo : w.heap.size + 1 < g ∧ w.heap.size + 1 < gc ∧ ∀ j, j < n → w.heap.size + 1 < bk j
 fr : Fr w wr
section
variable {w wr w' : World} {cw cl : Array Value} {g gc : Nat} {bk : Nat → Nat} {n L m k : Nat} {S : Nat → Bits} {c : Bits}
theorem Ini8.keep (h : Ini8 w wr cw cl g gc bk n L m k) (hk : Fr wr w') : Ini8 w w' cw cl g gc bk n L m k :=
 ⟨h.b0.kept hk (fun h => h), h.b1.kept hk (fun h => h), h.gs.kept hk (fun h => h), h.cm.kept hk (fun h => h), fun j hj => (h.row j hj).kept hk (fun h => h), h.inj, h.ne, h.lo, h.fr.trans hk⟩
theorem Mem8.keep (h : Mem8 w wr cw cl g gc bk n L S c) (hk : Fr wr w') : Mem8 w w' cw cl g gc bk n L S c :=
 ⟨h.b0.kept hk (fun h => h), h.b1.kept hk (fun h => h), h.gs.kept hk (fun h => h), h.cm.kept hk (fun h => h), fun j hj => (h.row j hj).kept hk (fun h => h), h.inj, h.ne, h.lo, h.fr.trans hk⟩
theorem Ini8.name (h : Ini8 w wr cw cl g gc bk n L k k) {b : Nat} (_hb : ∀ j, j < k → bk j ≠ b) : Ini8 w (wr.setCell ⟨g, k, none⟩ (rowV b L)) cw cl g gc (fun j => if j = k then b else bk j) n L (k + 1) k := by
 have hk : Kept (fun b => b = g) wr (wr.setCell ⟨g, k, none⟩ (rowV b L)) := (Kept.refl (fun b => b = g) wr).setCell (p := ⟨g, k, none⟩) (fun _ => rfl) _
 have e : ∀ j, j < k → (if j = k then b else bk j) = bk j := fun j hj => if_neg (by omega)
 refine ⟨h.b0.kept hk (by have := h.lo.1; omega), h.b1.kept hk (by have := h.lo.1; omega), ?_, h.cm.kept hk (fun e => Blk.ne_ h.cm h.gs (by decide) e), fun j hj => ?_, fun i j hi hj he => ?_, fun j hj => ?_, ⟨h.lo.1, h.lo.2.1, fun j hj => ?_⟩, h.fr.then hk (fun i hi e => by have := h.lo.1; omega)⟩
 · have := h.gs.set_ k (rowV b L)
   rw [mkS_set] at this
   rw [show (mkS n fun j => if j < k + 1 then rowV (if j = k then b else bk j) L else .slice none 0 0) = mkS n (fun s => if s = k then rowV b L else if s < k then rowV (bk s) L else .slice none 0 0) from by
     unfold mkS
     congr 1
     apply List.map_congr_left
     intro j _
     by_cases e1 : j = k
     · subst e1; simp
     · by_cases e2 : j < k
       · simp [e1, e2, show j < k + 1 by omega]
       · simp [e1, e2, show ¬ j < k + 1 by omega]]
   exact this
 · simp only [e j hj]; exact (h.row j hj).kept hk (fun e => Blk.ne_ (h.row j hj) h.gs (by decide) e)
 · simp only [e i hi, e j hj] at he; exact h.inj i j hi hj he
 · simp only [e j hj]; exact h.ne j hj
 · simp only [e j hj]; exact h.lo.2.2 j hj
theorem Ini8.fill (h : Ini8 w wr cw cl g gc bk n L (k + 1) k) (hb : ∀ j, j < k → bk j ≠ bk k) (hgc : bk k ≠ gc) (hlo : w.heap.size + 1 < bk k) (hr : Blk wr (bk k) 4 (mkB L (upTo (fun _ => true) m))) :
   Ini8 w (wr.setCell ⟨bk k, m, none⟩ (.bool true)) cw cl g gc bk n L (k + 1) k ∧ Blk (wr.setCell ⟨bk k, m, none⟩ (.bool true)) (bk k) 4 (mkB L (upTo (fun _ => true) (m + 1))) := by
 have hk : Kept (fun b => b = bk k) wr (wr.setCell ⟨bk k, m, none⟩ (.bool true)) := (Kept.refl (fun b => b = bk k) wr).setCell (p := ⟨bk k, m, none⟩) (fun _ => rfl) _
 refine ⟨⟨h.b0.kept hk (by omega), h.b1.kept hk (by omega), h.gs.kept hk (fun e => Blk.ne_ hr h.gs (by decide) e.symm), h.cm.kept hk (fun e => hgc e.symm), fun j hj => (h.row j hj).kept hk (hb j hj), h.inj, h.ne, h.lo, h.fr.then hk (fun i hi e => by omega)⟩, ?_⟩
 have := hr.bset m true
 rwa [upTo_set (F := fun _ => true) rfl] at this
theorem Ini8.full (h : Ini8 w wr cw cl g gc bk n L (k + 1) k) (hb : ∀ j, j < k → bk j ≠ bk k) (hgc : bk k ≠ gc) (hlo : w.heap.size + 1 < bk k) (hr : Blk wr (bk k) 4 (mkB L (upTo (fun _ => true) L))) : Ini8 w wr cw cl g gc bk n L (k + 1) (k + 1) := by
 rw [upTo_all] at hr
 refine ⟨h.b0, h.b1, h.gs, h.cm, fun j hj => ?_, fun i j hi hj he => ?_, fun j hj => ?_, ⟨h.lo.1, h.lo.2.1, fun j hj => ?_⟩, h.fr⟩
 · by_cases e : j = k
   · subst e; exact hr
   · exact h.row j (by omega)
 · by_cases e : i = k
   · by_cases e2 : j = k
     · omega
     · subst e; exact absurd he.symm (hb j (by omega))
   · by_cases e2 : j = k
     · subst e2; exact absurd he (hb i (by omega))
     · exact h.inj i j (by omega) (by omega) he
 · by_cases e : j = k
   · subst e; exact hgc
   · exact h.ne j (by omega)
 · by_cases e : j = k
   · subst e; exact hlo
   · exact h.lo.2.2 j (by omega)
theorem Ini8.first (h : Ini8 w wr cw cl g gc bk n L n n) (_hn : 0 < n) {b : Nat} {F : Bits} (hb : ∀ j, j < n → bk j ≠ b) (hgc : b ≠ gc) (hlo : w.heap.size + 1 < b) (hr : Blk wr b 4 (mkB L F)) :
   Mem8 w (wr.setCell ⟨g, 0, none⟩ (rowV b L)) cw cl g gc (fun j => if j = 0 then b else bk j) n L (fun k => if k = 0 then F else fun _ => true) (fun k => decide (k = 0)) := by
 have hk : Kept (fun b => b = g) wr (wr.setCell ⟨g, 0, none⟩ (rowV b L)) := (Kept.refl (fun b => b = g) wr).setCell (p := ⟨g, 0, none⟩) (fun _ => rfl) _
 refine ⟨h.b0.kept hk (by have := h.lo.1; omega), h.b1.kept hk (by have := h.lo.1; omega), ?_, h.cm.kept hk (fun e => Blk.ne_ h.cm h.gs (by decide) e), fun j hj => ?_, fun i j hi hj he => ?_, fun j hj => ?_, ⟨h.lo.1, h.lo.2.1, fun j hj => ?_⟩, h.fr.then hk (fun i hi e => by have := h.lo.1; omega)⟩
 · have := h.gs.set_ 0 (rowV b L)
   rw [mkS_set] at this
   rw [show (mkS n fun j => rowV (if j = 0 then b else bk j) L) = mkS n (fun s => if s = 0 then rowV b L else if s < n then rowV (bk s) L else .slice none 0 0) from by
     unfold mkS
     congr 1
     apply List.map_congr_left
     intro j hj
     have := List.mem_range.1 hj
     by_cases e1 : j = 0
     · subst e1; simp
     · simp [e1, this]]
   exact this
 · by_cases e : j = 0
   · subst e; simp only [if_true]; exact hr.kept hk (fun e => Blk.ne_ hr h.gs (by decide) e)
   · simp only [if_neg e]; exact (h.row j hj).kept hk (fun e => Blk.ne_ (h.row j hj) h.gs (by decide) e)
 · by_cases e : i = 0
   · by_cases e2 : j = 0
     · omega
     · simp only [e, if_true, if_neg e2] at he; exact absurd he.symm (hb j hj)
   · by_cases e2 : j = 0
     · simp only [e2, if_true, if_neg e] at he; exact absurd he (hb i hi)
     · simp only [if_neg e, if_neg e2] at he; exact h.inj i j hi hj he
 · by_cases e : j = 0
   · simp only [e, if_true]; exact hgc
   · simp only [if_neg e]; exact h.ne j hj
 · by_cases e : j = 0
   · simp only [e, if_true]; exact hlo
   · simp only [if_neg e]; exact h.lo.2.2 j hj
theorem Mem8.come (h : Mem8 w wr cw cl g gc bk n L S c) (t : Nat) : Mem8 w (wr.setCell ⟨gc, t, none⟩ (.bool true)) cw cl g gc bk n L S (onB c t) := by
 have hk : Kept (fun b => b = gc) wr (wr.setCell ⟨gc, t, none⟩ (.bool true)) := (Kept.refl (fun b => b = gc) wr).setCell (p := ⟨gc, t, none⟩) (fun _ => rfl) _
 refine ⟨h.b0.kept hk (by have := h.lo.2.1; omega), h.b1.kept hk (by have := h.lo.2.1; omega), h.gs.kept hk (fun e => Blk.ne_ h.cm h.gs (by decide) e.symm), ?_, fun j hj => (h.row j hj).kept hk (h.ne j hj), h.inj, h.ne, h.lo, h.fr.then hk (fun i hi e => by have := h.lo.2.1; omega)⟩
 have := h.cm.bset t true
 exact this
theorem Mem8.fall (h : Mem8 w wr cw cl g gc bk n L S c) {t : Nat} (ht : t < n) (i : Nat) : Mem8 w (wr.setCell ⟨bk t, i, none⟩ (.bool false)) cw cl g gc bk n L (updB S t fun x => if x = i then false else S t x) c := by
 have hk : Kept (fun b => b = bk t) wr (wr.setCell ⟨bk t, i, none⟩ (.bool false)) := (Kept.refl (fun b => b = bk t) wr).setCell (p := ⟨bk t, i, none⟩) (fun _ => rfl) _
 have hlo := h.lo.2.2 t ht
 refine ⟨h.b0.kept hk (by omega), h.b1.kept hk (by omega), h.gs.kept hk (fun e => Blk.ne_ (h.row t ht) h.gs (by decide) e.symm), h.cm.kept hk (fun e => h.ne t ht e.symm), fun j hj => ?_, h.inj, h.ne, h.lo, h.fr.then hk (fun i hi e => by omega)⟩
 by_cases e : j = t
 · subst e; rw [updB_same]; exact (h.row j hj).bset i false
 · rw [updB_ne e]; exact (h.row j hj).kept hk (fun e2 => e (h.inj j t hj ht e2))
theorem Mem8.congr {S' : Nat → Bits} {c' : Bits} (h : Mem8 w wr cw cl g gc bk n L S c) (hS : ∀ j, j < n → ∀ x, x < L → S j x = S' j x) (hc : ∀ j, j < n → c j = c' j) : Mem8 w wr cw cl g gc bk n L S' c' :=
 ⟨h.b0, h.b1, h.gs, by rw [← mkB_congr hc]; exact h.cm, fun j hj => by rw [← mkB_congr (hS j hj)]; exact h.row j hj, h.inj, h.ne, h.lo, h.fr⟩
theorem mkB_inj {F G : Bits} {b : Nat} (h1 : Blk wr b 4 (mkB L F)) (h2 : Blk wr b 4 (mkB L G)) {x : Nat} (hx : x < L) : F x = G x := by
 have e1 := h1.bcell hx
 rw [h2.bcell hx] at e1
 simpa using e1.symm
end
end Go.Proofs.Ytodmkjeankbieab


namespace Go.Proofs.Ytodmkjeankbieab
open Go.RowKit Go.Sort

end Go.Proofs.Ytodmkjeankbieab


namespace Go.Proofs.Ytodmkjeankbieab
open Go.RowKit Go.Sort

def natI (l : List Nat) : List Value := l.map fun (x : Nat) => Value.int .i64 (x : Int)
structure NdMem (w wr : World) (vw vc v : Value) (L : Nat) (way : List Nat) : Prop where
 bp : Blk wr w.heap.size 25 #[vw, vc]
 cb : Blk wr (w.heap.size + 1) 4 (mkB L (fun m => way.contains m))
 ow : wr.ownsRow (w.heap.size + 2) 3 1 v way.length (natI way)
 fr : Fr w wr
section
variable {w wr w2 : World} {vw vc v : Value} {L : Nat} {way : List Nat}
theorem NdMem.keep (h : NdMem w wr vw vc v L way) (hk : Fr wr w2) : NdMem w w2 vw vc v L way :=
 ⟨h.bp.kept hk (fun h => h), h.cb.kept hk (fun h => h), own_kept h.ow hk (fun _ _ h => h), h.fr.trans hk⟩
theorem NdMem.cp (h : NdMem w wr vw vc v L way) : wr.cell? ⟨w.heap.size, 0, none⟩ = some vw ∧ wr.cell? ⟨w.heap.size, 1, none⟩ = some vc := by
 have c0 := h.bp.cell 0
 have c1 := h.bp.cell 1
 simp only [List.getElem?_toArray, List.getElem?_cons_succ, List.getElem?_cons_zero] at c0 c1
 exact ⟨c0, c1⟩
theorem NdMem.at_ (h : NdMem w wr vw vc v L way) {k x : Nat} (hx : way[k]? = some x) : ∃ b off c, v = .slice (some ⟨b, off, none⟩) way.length c ∧ w.heap.size + 2 ≤ b ∧ b < wr.heap.size ∧ wr.cell? ⟨b, off + k, none⟩ = some (.int .i64 (x : Int)) := by
 obtain ⟨A, c, hv, _, hr⟩ := own_reads h.ow
 have hk : k < way.length := (List.getElem?_eq_some_iff.1 hx).1
 obtain ⟨b, off, rfl, hR, hc⟩ := hr.2 (by omega)
 have := hc k (.int .i64 (x : Int)) (by unfold natI; rw [List.getElem?_map, hx]; rfl)
 exact ⟨b, off, c, hv, hR.1, cell_lt this, this⟩
theorem NdMem.mark (h : NdMem w wr vw vc v L way) (m : Nat) : Blk (wr.setCell ⟨w.heap.size + 1, m, none⟩ (.bool true)) w.heap.size 25 #[vw, vc] ∧ Blk (wr.setCell ⟨w.heap.size + 1, m, none⟩ (.bool true)) (w.heap.size + 1) 4 (mkB L (fun s => (way ++ [m]).contains s)) ∧
   (wr.setCell ⟨w.heap.size + 1, m, none⟩ (.bool true)).ownsRow (w.heap.size + 2) 3 1 v way.length (natI way) ∧ Fr w (wr.setCell ⟨w.heap.size + 1, m, none⟩ (.bool true)) := by
 have hk : Kept (fun b => b = w.heap.size + 1) wr (wr.setCell ⟨w.heap.size + 1, m, none⟩ (.bool true)) := (Kept.refl (fun b => b = w.heap.size + 1) wr).setCell (p := ⟨w.heap.size + 1, m, none⟩) (fun _ => rfl) _
 refine ⟨h.bp.kept hk (by omega), ?_, own_kept h.ow hk (fun g hg e => by have := (own_lt h.ow hg).1; omega), h.fr.then hk (fun i hi e => by omega)⟩
 have := h.cb.bset m true
 rw [mkB_congr (g := fun s => (way ++ [m]).contains s) (fun s _ => ?_)] at this
 · exact this
 · by_cases e : s = m
   · subst e; simp
   · rw [if_neg e]
     rw [Bool.eq_iff_iff]
     simp [e]
theorem NdMem.add (h : NdMem w wr vw vc v L way) {m : Nat} {v1 : Value} {o : Obj} (hown : w2.ownsRow (w.heap.size + 2) 3 1 v1 (way.length + 1) (natI way ++ #[Value.int .i64 (m : Int)].toList)) (hk : Kept (fun k => v.ownBlock = some k) ((wr.setCell ⟨w.heap.size + 1, m, none⟩ (.bool true)).alloc o) w2) :
   NdMem w w2 vw vc v1 L (way ++ [m]) := by
 obtain ⟨h1, h2, h3, h4⟩ := h.mark m
 have hne : ∀ g, v.ownBlock = some g → w.heap.size + 2 ≤ g := fun g hg => (own_lt h.ow hg).1
 refine ⟨(h1.alloc o).kept hk (fun e => by have := hne _ e; omega), (h2.alloc o).kept hk (fun e => by have := hne _ e; omega), ?_, (h4.alloc o).then hk (fun i hi e => by have := hne _ e; omega)⟩
 unfold natI at *
 rw [List.length_append, List.map_append]
 exact hown
theorem NdMem.val (h : NdMem w wr vw vc v L way) : ∃ A c, v = .slice A way.length c := by
 obtain ⟨A, c, hv, _, hr⟩ := own_reads h.ow
 exact ⟨A, c, hv⟩
end

end Go.Proofs.Ytodmkjeankbieab


namespace Go.Proofs.Ytodmkjeankbieab
open Go.RowKit Go.Sort

structure RowsOwn (w wr : World) (v : Value) (W k : Nat) (f : Nat → Nat → Bool) (vs : List Value) : Prop where
 ow : wr.ownsRow w.heap.size 22 1 v k vs
 row : ∀ j, j < k → ∃ g, vs[j]? = some (.slice (some ⟨g, 0, none⟩) W W) ∧ w.heap.size ≤ g ∧ Blk wr g 4 (mkB W (f j))
theorem RowsOwn.nil (w wr : World) (W : Nat) (f : Nat → Nat → Bool) : RowsOwn w wr (.slice none 0 0) W 0 f [] := ⟨⟨rfl, Or.inl ⟨rfl, rfl⟩⟩, fun j hj => by omega⟩
theorem RowsOwn.len {w wr : World} {v : Value} {W k : Nat} {f : Nat → Nat → Bool} {vs : List Value} (h : RowsOwn w wr v W k f vs) : vs.length = k := by have := h.ow.1; omega
theorem RowsOwn.kept {w wr w2 : World} {S : Nat → Prop} {v : Value} {W k : Nat} {f : Nat → Nat → Bool} {vs : List Value} (h : RowsOwn w wr v W k f vs) (hk : Kept S wr w2) (hs : ∀ b, b < wr.heap.size → ¬ S b) : RowsOwn w w2 v W k f vs :=
 ⟨own_kept h.ow hk (fun g hg => hs g (own_lt h.ow hg).2), fun j hj => let ⟨g, h1, h2, h3⟩ := h.row j hj; ⟨g, h1, h2, h3.kept hk (hs g h3.lt)⟩⟩
theorem RowsOwn.snoc {w wr w2 : World} {v v1 : Value} {W k g : Nat} {f : Nat → Nat → Bool} {vs : List Value} {o : Obj} (h : RowsOwn w wr v W k f vs) (hg : w.heap.size ≤ g) (hb : Blk wr g 4 (mkB W (f k)))
   (hown : w2.ownsRow w.heap.size 22 1 v1 (k + 1) (vs ++ #[Value.slice (some ⟨g, 0, none⟩) W W].toList)) (hk : Kept (fun b => v.ownBlock = some b) (wr.alloc o) w2) :
   RowsOwn w w2 v1 W (k + 1) f (vs ++ [.slice (some ⟨g, 0, none⟩) W W]) := by
 refine ⟨hown, fun j hj => ?_⟩
 have hl := h.len
 by_cases e : j = k
 · subst e
   exact ⟨g, by rw [List.getElem?_append_right (by omega)]; simp [hl], hg, (hb.alloc o).kept hk (own_blk_ne h.ow hb (by decide))⟩
 · obtain ⟨g', h1, h2, h3⟩ := h.row j (by omega)
   exact ⟨g', by rw [List.getElem?_append_left (by omega)]; exact h1, h2, (h3.alloc o).kept hk (own_blk_ne h.ow h3 (by decide))⟩
theorem RowsOwn.rdm {w wr : World} {v : Value} {W k : Nat} {f : Nat → Nat → Bool} {vs : List Value} (h : RowsOwn w wr v W k f vs) (hW : W ≤ 100) (hk : k ≤ 100) : RdM wr (fun b => w.heap.size ≤ b) v (matL k W f) := by
 have hm : (matL k W f).length = k := by unfold matL; simp
 obtain ⟨A, c, hv, _, hr⟩ := own_reads h.ow
 refine ⟨A, c, vs, by rw [hm]; exact hv, by rw [hm]; unfold maxLen; omega, by rw [hm]; exact hr.more (fun b hb => hb.1), ?_⟩
 intro j r hj
 have hjk : j < k := by rw [← hm]; exact (List.getElem?_eq_some_iff.1 hj).1
 rw [matL_at hjk] at hj
 simp at hj
 subst hj
 obtain ⟨g, h1, h2, h3⟩ := h.row j hjk
 exact ⟨_, h1, RdBo.of_blk h3 (by omega) (by unfold maxLen; omega)⟩

end Go.Proofs.Ytodmkjeankbieab

