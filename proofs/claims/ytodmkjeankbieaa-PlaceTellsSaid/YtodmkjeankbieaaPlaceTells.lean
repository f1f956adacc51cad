/-
  PlaceTells: for every program, target and places, and any two places, the program tells whether they may be, and whether these overlap. No condition.
-/
import Derived.Test.YtodmkjeankbieaaFrame
import Derived.Test.YtodmkjeankbieaaOpenPg
import Derived.Test.YtodmkjeankbieaaPlace1
import Derived.Test.YtodmkjeankbieaaRefPlace3
import Derived.Deep.Cut
namespace Go.Proofs.Ytodmkjeankbieaa.placeTells
open Go.ChangeShapes Go.WideShapes Go.ChangeAt Go.RowKit Go.Joins

section
variable {H : Type} {enc : TypeId × Value → H} {w : World} {base : Nat} {spare : Nat → Bool} {held : Bool}
set_option maxRecDepth 100000 in
theorem open_tg {r : Reach} {b0 : Nat} {v : Value} {d : DataW H} {ps : List MemPlace} (hv : Value.okWide Try.prog w r b0 61 v) (h : DataW.Trod enc Try.prog w base spare held 61 v d ps) : ∃ sg : Int, v = tgV sg := by
  obtain ⟨cs, rfl, hsz⟩ := okWide_struct Try.underlying61 hv
  obtain ⟨c0, rfl⟩ : ∃ c0, cs = #[c0] := by
    obtain ⟨l⟩ := cs
    have hC : Try.prog.cellsOf 61 = 1 := by kernel_rfl
    match l, hsz.trans hC with
    | [c0], _ => exact ⟨c0, rfl⟩
  obtain ⟨fuel, hf⟩ := h
  obtain ⟨xs, n, _, _, hlen, hxl, hfl⟩ := DataW.trod_struct Try.underlying61 hf
  have h0 := field_at hfl 0 rfl 3 rfl 0 rfl cInt (one := [c0]) rfl
  obtain ⟨y0, hy0⟩ : ∃ y, xs[0]? = some y := ⟨_, List.getElem?_eq_getElem (by rw [hxl]; decide)⟩
  rw [hy0] at h0
  obtain ⟨n, e0, _, w0⟩ := DataW.trod_int Try.underlying3 h0
  simp only [List.cons.injEq, and_true] at e0
  subst e0
  exact ⟨n, rfl⟩
set_option maxRecDepth 100000 in
theorem open_place {r : Reach} {b0 : Nat} {v : Value} {d : DataW H} {ps : List MemPlace} (hv : Value.okWide Try.prog w r b0 23 v) (h : DataW.Trod enc Try.prog w base spare held 23 v d ps) : ∃ a : PlaceV, v = a.val ∧ a.ok := by
  obtain ⟨c0, c1, y0, y1, m, rfl, rfl, rfl, f0, f1⟩ := Joins.open_agg2 Try.underlying23 (by kernel_rfl) (by kernel_rfl) hv h
  obtain ⟨k, e0, _, w0⟩ := DataW.trod_int Try.underlying3 f0
  obtain ⟨n, e1, _, w1⟩ := DataW.trod_int Try.underlying3 f1
  simp only [List.cons.injEq, and_true] at e0 e1
  subst e0; subst e1
  exact ⟨⟨k, n⟩, rfl, inI_of w0, inI_of w1⟩
end
structure Q5 (w W : World) (c0 c1 c2 c3 c4 : Array Value) : Prop where
  b0 : Blk W w.heap.size 51 c0
  b1 : Blk W (w.heap.size + 1) 61 c1
  b2 : Blk W (w.heap.size + 2) 34 c2
  b3 : Blk W (w.heap.size + 3) 23 c3
  b4 : Blk W (w.heap.size + 4) 23 c4
  fr : Fr w W
theorem Q5.keep {w W W2 : World} {c0 c1 c2 c3 c4 : Array Value} (h : Q5 w W c0 c1 c2 c3 c4) (hk : Fr W W2) : Q5 w W2 c0 c1 c2 c3 c4 :=
  ⟨h.b0.kept hk (fun h => h), h.b1.kept hk (fun h => h), h.b2.kept hk (fun h => h), h.b3.kept hk (fun h => h), h.b4.kept hk (fun h => h), h.fr.trans hk⟩
theorem Q5.start (w : World) (c0 c1 c2 c3 c4 : Array Value) : Q5 w (((((w.alloc (.cells c0 51)).alloc (.cells c1 61)).alloc (.cells c2 34)).alloc (.cells c3 23)).alloc (.cells c4 23)) c0 c1 c2 c3 c4 := by
  refine ⟨((((Blk.new w _ _).alloc _).alloc _).alloc _).alloc _, ?_, ?_, ?_, ?_, (((((Kept.refl _ w).alloc _).alloc _).alloc _).alloc _).alloc _⟩
  · have := (((Blk.new (w.alloc (.cells c0 51)) 61 c1).alloc (.cells c2 34)).alloc (.cells c3 23)).alloc (.cells c4 23)
    simpa using this
  · have := ((Blk.new ((w.alloc (.cells c0 51)).alloc (.cells c1 61)) 34 c2).alloc (.cells c3 23)).alloc (.cells c4 23)
    simpa using this
  · have := (Blk.new (((w.alloc (.cells c0 51)).alloc (.cells c1 61)).alloc (.cells c2 34)) 23 c3).alloc (.cells c4 23)
    simpa using this
  · have := Blk.new ((((w.alloc (.cells c0 51)).alloc (.cells c1 61)).alloc (.cells c2 34)).alloc (.cells c3 23)) 23 c4
    simpa using this

set_option maxHeartbeats 2000000 in
set_option maxRecDepth 100000 in
theorem walk (R R' : Nat → Prop) (v vl : Value) (p : Pg) (sg : Int) (l : Pd) (a b : PlaceV) (w : World) (h : RdPg w R v p) (hl : RdPd w R' vl l) (ha : a.ok) (hb : b.ok) :
    Calls Try.prog 12 #[v, tgV sg, vl, a.val, b.val] w fun e w' => e = .returned (.bool true) ∧ Below w.heap.size w w' := by
  have H := Lib.hid h
  have HL := Lib.hid hl
  obtain ⟨vw, vc, rfl, ⟨A, c, rfl, hl1, hr1⟩, ⟨A', c', rfl, hl2, hr2, ho2⟩⟩ := h
  obtain ⟨vr, lv, rfl, hsl, ⟨Ar, cr, rfl, hlr, _, _⟩, _⟩ := hl
  clear hr1 hr2 ho2
  have HMay := Lib.hid (fun w2 (hf : Fr w w2) => placeMay_any R R' _ _ p sg l w2 (H.out.kept hf (fun _ _ h => h)) (HL.out.kept hf (fun _ _ h => h)))
  have HRef := Lib.hid (fun w2 (hf : Fr w w2) => refPlaceMay_any R R' _ _ p sg l w2 (H.out.kept hf (fun _ _ h => h)) (HL.out.kept hf (fun _ _ h => h)))
  have HEq := Lib.hid (mayL_eq p sg l)
  have HOv := Lib.hid (fun w2 => overlap_any a.k a.n b.k b.n w2)
  have HRo := Lib.hid (fun w2 => refOverlap_any a b w2 ha hb)
  have HOE : Hid (ov a.k a.n b.k b.n = ovP a b) := rfl
  obtain ⟨sl, rows⟩ := l
  obtain ⟨ak, an⟩ := a
  obtain ⟨bk, bn⟩ := b
  unfold tgV at HMay HRef ⊢
  unfold PlaceV.val at HRo ⊢
  simp only at *
  rw [HEq.out] at HMay
  rw [HOE.out] at HOv
  clear HEq HOE
  generalize mayLR p sg ⟨sl, rows⟩ = x at *
  generalize ovP ⟨ak, an⟩ ⟨bk, bn⟩ = y at *
  have HQ0 := Lib.hid (Q5.start w #[.slice A p.wide.length c, .slice A' p.code.length c'] #[.int .i64 sg] #[.int .i64 sl, .slice Ar lv.length cr] #[.int .i64 ak, .int .i64 an] #[.int .i64 bk, .int .i64 bn])
  go_enter Try.func12, Try.ntmps12
  go_upto_region 1 with (fail)
  generalize (((((w.alloc (.cells #[.slice A p.wide.length c, .slice A' p.code.length c'] 51)).alloc (.cells #[.int .i64 sg] 61)).alloc (.cells #[.int .i64 sl, .slice Ar lv.length cr] 34)).alloc (.cells #[.int .i64 ak, .int .i64 an] 23)).alloc (.cells #[.int .i64 bk, .int .i64 bn] 23)) = W at *
  have p0 := HQ0.out.b0.cell 0
  have z0 := HQ0.out.b0.lt
  have t0 := HQ0.out.b1.cell 0
  have z1 := HQ0.out.b1.lt
  have l0 := HQ0.out.b2.cell 0
  have z2 := HQ0.out.b2.lt
  have a0 := HQ0.out.b3.cell 0
  have z3 := HQ0.out.b3.lt
  have b0 := HQ0.out.b4.cell 0
  have z4 := HQ0.out.b4.lt
  have p1 := HQ0.out.b0.cell 1
  have l1 := HQ0.out.b2.cell 1
  have a1 := HQ0.out.b3.cell 1
  have b1 := HQ0.out.b4.cell 1
  simp only [List.getElem?_toArray, List.getElem?_cons_succ, List.getElem?_cons_zero] at p0 p1 t0 l0 l1 a0 a1 b0 b1
  go_wp2_with fail
  refine (HMay.out _ HQ0.out.fr).mono ?_
  rintro e w1 ⟨rfl, f1⟩
  have HQ1 := Lib.hid (HQ0.out.keep f1)
  have p0 := HQ1.out.b0.cell 0
  have z0 := HQ1.out.b0.lt
  have t0 := HQ1.out.b1.cell 0
  have z1 := HQ1.out.b1.lt
  have l0 := HQ1.out.b2.cell 0
  have z2 := HQ1.out.b2.lt
  have a0 := HQ1.out.b3.cell 0
  have z3 := HQ1.out.b3.lt
  have b0 := HQ1.out.b4.cell 0
  have z4 := HQ1.out.b4.lt
  have p1 := HQ1.out.b0.cell 1
  have l1 := HQ1.out.b2.cell 1
  have a1 := HQ1.out.b3.cell 1
  have b1 := HQ1.out.b4.cell 1
  simp only [List.getElem?_toArray, List.getElem?_cons_succ, List.getElem?_cons_zero] at p0 p1 t0 l0 l1 a0 a1 b0 b1
  clear f1
  go_wp2_with fail
  refine (HOv.out _).mono ?_
  rintro e w2 ⟨rfl, f2⟩
  have HQ2 := Lib.hid (HQ1.out.keep (Fr.of_below f2))
  have p0 := HQ2.out.b0.cell 0
  have z0 := HQ2.out.b0.lt
  have t0 := HQ2.out.b1.cell 0
  have z1 := HQ2.out.b1.lt
  have l0 := HQ2.out.b2.cell 0
  have z2 := HQ2.out.b2.lt
  have a0 := HQ2.out.b3.cell 0
  have z3 := HQ2.out.b3.lt
  have b0 := HQ2.out.b4.cell 0
  have z4 := HQ2.out.b4.lt
  have p1 := HQ2.out.b0.cell 1
  have l1 := HQ2.out.b2.cell 1
  have a1 := HQ2.out.b3.cell 1
  have b1 := HQ2.out.b4.cell 1
  simp only [List.getElem?_toArray, List.getElem?_cons_succ, List.getElem?_cons_zero] at p0 p1 t0 l0 l1 a0 a1 b0 b1
  clear f2
  go_wp2_with fail
  refine (HRef.out _ HQ2.out.fr).mono ?_
  rintro e w3 ⟨rfl, f3⟩
  have HQ3 := Lib.hid (HQ2.out.keep f3)
  have p0 := HQ3.out.b0.cell 0
  have z0 := HQ3.out.b0.lt
  have t0 := HQ3.out.b1.cell 0
  have z1 := HQ3.out.b1.lt
  have l0 := HQ3.out.b2.cell 0
  have z2 := HQ3.out.b2.lt
  have a0 := HQ3.out.b3.cell 0
  have z3 := HQ3.out.b3.lt
  have b0 := HQ3.out.b4.cell 0
  have z4 := HQ3.out.b4.lt
  have p1 := HQ3.out.b0.cell 1
  have l1 := HQ3.out.b2.cell 1
  have a1 := HQ3.out.b3.cell 1
  have b1 := HQ3.out.b4.cell 1
  simp only [List.getElem?_toArray, List.getElem?_cons_succ, List.getElem?_cons_zero] at p0 p1 t0 l0 l1 a0 a1 b0 b1
  clear f3
  go_wp2_with fail
  refine (HRo.out _).mono ?_
  rintro e w4 ⟨rfl, f4⟩
  have HF4 := Lib.hid (HQ3.out.fr.trans f4)
  clear f4
  go_wp2
  go_ret
  exact ⟨rfl, Fr.below HF4.out⟩
set_option maxRecDepth 100000 in
theorem lifted (os : Os) (started : os.Started) (H : Type) (enc : TypeId × Value → H) :
    ReturnsInHanded {} Try.checked os 12 .any (Rows.placeTellsSpec.pre6 enc Try.prog Try.f12 Rows.placeTellsRow.domain false) (Rows.placeTellsSpec.post enc Try.prog Try.f12 false true false false) := by
  refine returnsInHanded_of_change (C := Try.checked) own started (by kernel_rfl) Try.func12
    (ChangeSpec.witness6 (enc := enc) (C := Try.checked) false ⟨#[], #[.agg #[.slice none 0 0, .slice none 0 0], .agg #[.int .i64 0], .agg #[.int .i64 0, .slice none 0 0], .agg #[.int .i64 0, .int .i64 0], .agg #[.int .i64 0, .int .i64 0]], []⟩ 8 (by kernel_rfl) (by kernel_rfl) (by kernel_rfl) (by kernel_rfl)) ?_
  intro W base args ds gs before hval0 hW _ _
  have hval : ∀ (j : Nat) t v, Try.f12.params[j]? = some t → args[j]? = some v → Value.okWide Try.prog W .any base t v := hval0
  have hlt : ∀ x ∈ before, x.block < W.heap.size := fun x hx => hW.lt x hx
  have hW' := hW
  obtain ⟨p, q, hA0, hV, rfl, _, _⟩ := hW
  have hA : DataW.TrodAll enc Try.prog W 0 (fun _ => true) true Try.f12.params.toList args.toList ds p := hA0
  rw [Try.params12] at hA hval
  obtain ⟨v0, vs0, d0, ds0, p0, q0, hargs, rfl, rfl, h0, r0⟩ := trodAll_cons hA
  obtain ⟨v1, vs1, d1, ds1, p1, q1, rfl, rfl, rfl, h1, r1⟩ := trodAll_cons r0
  obtain ⟨v2, vs2, d2, ds2, p2, q2, rfl, rfl, rfl, h2, r2⟩ := trodAll_cons r1
  obtain ⟨v3, vs3, d3, ds3, p3, q3, rfl, rfl, rfl, h3, r3⟩ := trodAll_cons r2
  obtain ⟨v4, vs4, d4, ds4, p4, q4, rfl, rfl, rfl, h4, r4⟩ := trodAll_cons r3
  obtain ⟨rfl, rfl, rfl⟩ := trodAll_nil r4
  obtain rfl : args = #[v0, v1, v2, v3, v4] := by cases args; simp_all
  have hg : gs = [] := (trodVars_none hV).1
  subst hg
  suffices hwalk : Calls Try.prog 12 #[v0, v1, v2, v3, v4] W fun e W' => e = .returned (.bool true) ∧ Below W.heap.size W W' by
    refine hwalk.mono fun e W' ⟨he, hb⟩ => ?_
    subst he
    exact law_post (by kernel_rfl) rfl rfl hW' rfl hb
  obtain ⟨p, hp⟩ := open_pg (R := fun _ => True) (hval 0 51 v0 rfl rfl) h0 (fun _ _ => trivial)
  obtain ⟨sg, rfl⟩ := open_tg (hval 1 61 v1 rfl rfl) h1
  obtain ⟨l, hl, _⟩ := open_pd (R := fun _ => True) (hval 2 34 v2 rfl rfl) h2 (fun _ _ => trivial)
  obtain ⟨a, rfl, ha⟩ := open_place (hval 3 23 v3 rfl rfl) h3
  obtain ⟨b, rfl, hb⟩ := open_place (hval 4 23 v4 rfl rfl) h4
  exact walk _ _ v0 v2 p sg l a b W hp hl ha hb

theorem over : Rows.placeTellsRow.holds Try.pinned (OpenSpec.ofChange Rows.placeTellsSpec) :=
  OpenClaim.holds_of_wide 12 Try.f12 rfl rfl rfl rfl rfl rfl rfl ⟨rfl, rfl, rfl, rfl, rfl⟩ rfl rfl rfl rfl rfl (by kernel_rfl) Try.func12 (by kernel_rfl)
    (of_decide_eq_true (by kernel_rfl)) (by unfold Func.isWrapper; first | (rw [if_pos (by decide +kernel)]; kernel_rfl) | (rw [if_neg (by decide +kernel)]; exact ⟨rfl, rfl⟩))
    (fun os started H enc _ => lifted os started H enc)

/-- the statement -/
theorem proved : Rows.PlaceTellsSaid := over
#print axioms proved
end Go.Proofs.Ytodmkjeankbieaa.placeTells
