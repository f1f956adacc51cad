/-
  NearBoth: for every program, who is near another one has that one near, and none is near itself; and two that are needed ahead of the first instruction are near. No condition.
-/
import Derived.Test.YtodmkjeankbieabFrame
import Derived.Test.YtodmkjeankbieabOpenPg
import Derived.Test.YtodmkjeankbieabNear
namespace Go.Proofs.Ytodmkjeankbieab.nearBoth
open Go.ChangeShapes Go.WideShapes Go.ChangeAt Go.RowKit Go.Joins

def two : Pg := ⟨[false, false], [⟨3, 0, 0, 0, 0, 0⟩, ⟨3, 1, 0, 0, 0, 0⟩, ⟨4, 0, 0, 0, 0, 0⟩, ⟨4, 0, 1, 0, 0, 0⟩]⟩
theorem two_may : mayB two = true := by decide +kernel
theorem two_near : nearB two.code 0 1 = true := by
  have h : needB two.code 2 0 = true := needB_iff.2 ⟨1, by decide +kernel⟩
  have h2 : nearAt two.code (needB two.code) 1 1 0 = true := by
    have e : nx two.code 1 = [2] := by decide +kernel
    have e2 : givesB (inAt two.code 1) 1 = true := by decide +kernel
    have e3 : (inAt two.code 1).op ≠ 2 := by decide +kernel
    unfold nearAt behindM
    rw [e, e2]
    simp [h, e3]
  unfold nearB
  rw [Bool.and_eq_true]
  refine ⟨by decide, ?_⟩
  rw [Bool.or_eq_true, List.any_eq_true]
  exact Or.inr ⟨1, by decide +kernel, by rw [h2, Bool.or_true]⟩

/-- the cells of its code -/
def twoC : Array Value := #[.int .i64 3, .int .i64 0, .int .i64 0, .int .i64 0, .int .i64 0, .int .u32 0, .int .i64 3, .int .i64 1, .int .i64 0, .int .i64 0, .int .i64 0, .int .u32 0, .int .i64 4, .int .i64 0, .int .i64 0, .int .i64 0, .int .i64 0, .int .u32 0, .int .i64 4, .int .i64 0, .int .i64 1, .int .i64 0, .int .i64 0, .int .u32 0]
def twoV (n : Nat) : Array Value := #[.slice (some ⟨n, 0, none⟩) 2 2, .slice (some ⟨n + 1, 0, none⟩) 4 4]
def twoW (w : World) : World := ((w.alloc (.cells #[.bool false, .bool false] 4)).alloc (.cells twoC 45)).alloc (.cells (twoV w.heap.size) 25)
theorem twoW_fr (w : World) : Fr w (twoW w) := (((Kept.refl _ w).alloc _).alloc _).alloc _
theorem two_rd (w : World) : RdPg (twoW w) (fun _ => True) (.agg (twoV w.heap.size)) two := by
  refine ⟨_, _, rfl, ⟨_, _, rfl, by unfold two maxLen; decide, ?_⟩, ⟨_, _, rfl, by unfold two maxLen; decide, ?_, ?_⟩⟩
  · exact (Reads.lit' (w := w) (e := 4) (cs := #[.bool false, .bool false]) rfl trivial rfl).kept (((Kept.refl (fun _ => False) _).alloc _).alloc _) (fun _ _ h => h)
  · exact (Reads.lit' (w := w.alloc (.cells #[.bool false, .bool false] 4)) (e := 45) (cs := twoC) (by simp) trivial rfl).kept ((Kept.refl (fun _ => False) _).alloc _) (fun _ _ h => h)
  · intro m hm
    simp only [two, List.mem_cons, List.not_mem_nil, or_false] at hm
    rcases hm with rfl | rfl | rfl | rfl <;> (refine ⟨?_, ?_, ?_, ?_, ?_, ?_⟩ <;> first | decide | (unfold inI; decide))

/-- a row of a matrix -/
theorem mat_row {w : World} {R : Nat → Prop} {g L W c0 : Nat} {M : Nat → Nat → Bool} (h : RdM w R (.slice (some ⟨g, 0, none⟩) L c0) (matL L W M)) (hW : 0 < W) {k : Nat} (hk : k < L) :
    ∃ b o c, w.cell? ⟨g, k, none⟩ = some (.slice (some ⟨b, o, none⟩) W c) ∧ (∀ t, t < W → w.cell? ⟨b, o + t, none⟩ = some (.bool (M k t))) ∧ g < w.heap.size ∧ b < w.heap.size := by
  obtain ⟨bl, ol, cl, u, hv, _, hlt, hcell, hbo⟩ := h.row (k := k) (row := (List.range W).map (M k)) (matL_at hk)
  simp only [Value.slice.injEq, Option.some.injEq, Addr.mk.injEq, and_true] at hv
  obtain ⟨⟨rfl, rfl⟩, _, _⟩ := hv
  obtain ⟨A, c, rfl, _, hr⟩ := hbo
  obtain ⟨b, o, rfl, _, hc⟩ := hr.2 (by simpa using hW)
  have hcc : ∀ t, t < W → w.cell? ⟨b, o + t, none⟩ = some (.bool (M k t)) := fun t ht => hc t _ (by simp [List.getElem?_range ht])
  refine ⟨b, o, c, ?_, hcc, hlt, cell_lt (hcc 0 hW)⟩
  rw [Nat.zero_add] at hcell
  rw [hcell]
  simp
theorem nearM_matL (p : Pg) : nearM p = matL p.wide.length p.wide.length (nearB p.code) := rfl
theorem needM_matL' (p : Pg) : needM p = matL p.code.length p.wide.length (needB p.code) := rfl

/-- what near.Of tells of the two -/
theorem twoNear (w : World) : Calls Try.prog 19 #[.agg (twoV w.heap.size)] (twoW w) fun e w' => Fr w w' ∧ ∃ g b o c, e = .returned (.tuple #[.slice (some ⟨g, 0, none⟩) 2 2, .int .i64 0]) ∧
    w'.cell? ⟨g, 0, none⟩ = some (.slice (some ⟨b, o, none⟩) 2 c) ∧ w'.cell? ⟨b, o + 1, none⟩ = some (.bool true) ∧ g < w'.heap.size ∧ b < w'.heap.size := by
  refine (nearOf_any _ _ two (twoW w) (two_rd w)).mono ?_
  rintro e w' ⟨hf, ⟨hm, _⟩ | ⟨_, g0, rfl, hr⟩⟩
  · rw [two_may] at hm; cases hm
  · refine ⟨(twoW_fr w).trans hf, ?_⟩
    rw [nearM_matL] at hr
    obtain ⟨b, o, c, h1, h2, h3, h4⟩ := mat_row (L := 2) (W := 2) hr (by decide) (k := 0) (by decide)
    exact ⟨g0, b, o, c, rfl, h1, by rw [h2 1 (by decide), two_near], h3, h4⟩

set_option maxHeartbeats 4000000 in
set_option maxRecDepth 100000 in
theorem walk (R : Nat → Prop) (v : Value) (p : Pg) (w : World) (h : RdPg w R v p) :
    Calls Try.prog 6 #[v] w fun e w' => e = .returned (.bool true) ∧ Below w.heap.size w w' := by
  have H := Lib.hid h
  obtain ⟨vw, vc, rfl, ⟨A, c, rfl, hl, hr⟩, ⟨A', c', rfl, hl', hr', ho'⟩⟩ := h
  clear hr hr' ho'
  have B0 := Lib.hid (Blk.new w 25 #[.slice A p.wide.length c, .slice A' p.code.length c'])
  go_enter Try.func6, Try.ntmps6
  go_wp2_with fail
  refine (nearOf_any R _ p _ (H.out.kept ((Kept.refl (fun _ => False) w).alloc _) (fun _ _ h => h))).mono ?_
  rintro e w1 ⟨f1, he⟩
  have B1 := B0.out.kept f1 (fun h => h)
  have F1 : Fr w w1 := ((Kept.refl _ w).alloc _).trans f1
  have c0 := B1.cell 0
  have c1 := B1.cell 1
  simp only [List.getElem?_toArray, List.getElem?_cons_succ, List.getElem?_cons_zero] at c0 c1
  have HB1 := Lib.hid B1
  have HF1 := Lib.hid F1
  clear B1 F1 f1 B0
  have HM := Lib.hid (fun w2 (hf : Fr w w2) => liveOf_any R _ p w2 (H.out.kept hf (fun _ _ h => h)))
  rcases he with ⟨hm, rfl⟩ | ⟨hm, g0, rfl, hr1⟩
  · go_wp2_with fail
    refine (HM.out _ HF1.out).mono ?_
    rintro e w2 ⟨f2, he2⟩
    have HF2 := Lib.hid (HF1.out.trans f2)
    clear f2 c0 c1
    rcases he2 with ⟨_, rfl⟩ | ⟨hm2, _⟩
    · clear hm
      go_wp2_with fail
      refine (twoNear w2).mono ?_
      rintro e w3 ⟨f3, g3, b3, o3, c3, rfl, k0, k1, z0, z1⟩
      have HF3 := Lib.hid (HF2.out.trans f3)
      clear f3
      go_wp2
      go_ret
      exact ⟨rfl, Fr.below HF3.out⟩
    · rw [hm] at hm2; cases hm2
  · have hmay := Lib.hid hm
    have HR1 := Lib.hid hr1
    clear hr1
    go_wp2_with fail
    refine (HM.out _ HF1.out).mono ?_
    rintro e w2 ⟨f2, he2⟩
    have HF2 := Lib.hid (HF1.out.trans f2)
    have HB2 := Lib.hid (HB1.out.kept f2 (fun h => h))
    have HR2 := Lib.hid (HR1.out.kept f2 (fun _ _ h => h))
    clear f2 c0 c1
    rcases he2 with ⟨hm2, _⟩ | ⟨_, g2, rfl, hr2⟩
    · rw [hm] at hm2; cases hm2
    · have HN2 := Lib.hid hr2
      clear hm hr2
      go_wp2_with fail
      refine (twoNear w2).mono ?_
      rintro e w3 ⟨f3, g3, b3, o3, c3, rfl, k0, k1, z0, z1⟩
      have HF3 := Lib.hid (HF2.out.trans f3)
      have HB3 := Lib.hid (HB2.out.kept f3 (fun h => h))
      have HR3 := Lib.hid (HR2.out.kept f3 (fun _ _ h => h))
      have HN3 := Lib.hid (HN2.out.kept f3 (fun _ _ h => h))
      clear f3
      obtain ⟨l1, l2, l3, l4⟩ := mayB_len hmay.out
      go_wp2
      clear k0 k1 z0 z1
      go_loopw [10] (fun i wr => ∃ a : Nat, a ≤ p.wide.length ∧ i = .int .i64 a ∧ Hid (Fr w3 wr)) (fun i _ => p.wide.length - (intOf i).toNat)
      case atStart => exact ⟨0, Nat.zero_le _, rfl, Kept.refl _ w3⟩
      case round =>
        obtain ⟨a, ha, rfl, hf⟩ := hrel
        by_cases hal : a < p.wide.length
        · obtain ⟨wB, rfl⟩ : ∃ wB : World, wB = wr := ⟨_, rfl⟩
          have ha0 : (0 : Int) ≤ (a : Int) := Int.natCast_nonneg _
          have ha1 : (a : Int) < (p.wide.length : Int) := by omega
          go_wp2
          go_loopw [11] (fun i wr => ∃ b : Nat, b ≤ p.wide.length ∧ i = .int .i64 b ∧ Hid (Fr wB wr)) (fun i _ => p.wide.length - (intOf i).toNat)
          case atStart => exact ⟨0, Nat.zero_le _, rfl, Kept.refl _ wB⟩
          case round =>
            obtain ⟨b, hb, rfl, hf2⟩ := hrel
            by_cases hbl : b < p.wide.length
            · have hb0 : (0 : Int) ≤ (b : Int) := Int.natCast_nonneg _
              have hb1 : (b : Int) < (p.wide.length : Int) := by omega
              have hR := (HR3.out.kept hf.out (fun _ _ h => h)).kept hf2.out (fun _ _ h => h)
              have hN := (HN3.out.kept hf.out (fun _ _ h => h)).kept hf2.out (fun _ _ h => h)
              rw [nearM_matL] at hR
              rw [needM_matL'] at hN
              obtain ⟨ba, oa, ca, ra0, ra, z0, z1⟩ := mat_row hR (by omega) hal
              obtain ⟨bb, ob, cb, rb0, rb, z2, z3⟩ := mat_row hR (by omega) hbl
              obtain ⟨bn, on, cn, rn0, rn, z4, z5⟩ := mat_row hN (by omega) (show 0 < p.code.length by omega)
              clear hR hN
              have xa := ra b hbl
              have xb := rb a hal
              have na := rn a hal
              have nb := rn b hbl
              clear ra rb rn
              rw [nearB_comm p.code b a] at xb
              by_cases hab : a = b
              · subst hab
                clear xb rb0 nb
                rw [nearB_self] at xa
                have q1 : ((a : Int) == (a : Int)) = true := by simp
                have q2 : ((a : Int) != (a : Int)) = false := by simp
                go_wp2
                go_quiet (fail)
                go_wp2
                go_roundw
                case rel => exact ⟨a + 1, by omega, by go_num, Lib.hid (hf2.out.drewN nq)⟩
                case measure => simp [intOf]; omega
              · have q1 : ((a : Int) == (b : Int)) = false := by simpa using fun h : (a : Int) = (b : Int) => hab (by omega)
                have q2 : ((a : Int) != (b : Int)) = true := by simpa using fun h : (a : Int) = (b : Int) => hab (by omega)
                have HX := Lib.hid (fun h1 h2 => nearB_first (code := p.code) hab h1 h2)
                clear hab
                generalize nearB p.code a b = x at *
                generalize needB p.code 0 a = ya at *
                generalize needB p.code 0 b = yb at *
                have hcs : (x = true ∧ ya = false) ∨ (x = false ∧ ya = false) ∨ (x = true ∧ ya = true ∧ yb = false) ∨ (x = false ∧ ya = true ∧ yb = false) ∨ (x = true ∧ ya = true ∧ yb = true) := by
                  have := HX.out
                  cases x <;> cases ya <;> cases yb <;> simp at *
                clear HX
                rcases hcs with ⟨rfl, rfl⟩ | ⟨rfl, rfl⟩ | ⟨rfl, rfl, rfl⟩ | ⟨rfl, rfl, rfl⟩ | ⟨rfl, rfl, rfl⟩
                all_goals
                  go_wp2
                  go_quiet (fail)
                  go_wp2
                  go_roundw
                  case rel => exact ⟨b + 1, by omega, by go_num, Lib.hid (hf2.out.drewN nq)⟩
                  case measure => simp [intOf]; omega
            · obtain rfl : b = p.wide.length := by omega
              go_wp2
              go_roundw
              case rel => exact ⟨a + 1, by omega, by go_num, hf.out.trans hf2.out⟩
              case measure => simp [intOf]; omega
        · obtain rfl : a = p.wide.length := by omega
          have hB := HB3.out.kept hf.out (fun h => h)
          have c0 := hB.cell 0
          have c1 := hB.cell 1
          have zb := hB.lt
          simp only [List.getElem?_toArray, List.getElem?_cons_succ, List.getElem?_cons_zero] at c0 c1
          clear hB
          go_wp2
          go_ret
          exact ⟨rfl, Fr.below (HF3.out.trans hf.out)⟩
set_option maxRecDepth 100000 in
theorem lifted (os : Os) (started : os.Started) (H : Type) (enc : TypeId × Value → H) :
    ReturnsInHanded {} Try.checked os 6 .any (Rows.nearBothSpec.pre6 enc Try.prog Try.f6 Rows.nearBothRow.domain false) (Rows.nearBothSpec.post enc Try.prog Try.f6 false true false false) := by
  refine returnsInHanded_of_change (C := Try.checked) own started (by kernel_rfl) Try.func6
    (ChangeSpec.witness6 (enc := enc) (C := Try.checked) false ⟨#[], #[.agg #[.slice none 0 0, .slice none 0 0]], []⟩ 8 (by kernel_rfl) (by kernel_rfl) (by kernel_rfl) (by kernel_rfl)) ?_
  intro W base args ds gs before hval0 hW _ _
  have hval : ∀ (j : Nat) t v, Try.f6.params[j]? = some t → args[j]? = some v → Value.okWide Try.prog W .any base t v := hval0
  have hlt : ∀ x ∈ before, x.block < W.heap.size := fun x hx => hW.lt x hx
  have hW' := hW
  obtain ⟨p, q, hA0, hV, rfl, _, _⟩ := hW
  have hA : DataW.TrodAll enc Try.prog W 0 (fun _ => true) true Try.f6.params.toList args.toList ds p := hA0
  rw [Try.params6] at hA hval
  obtain ⟨v0, vs0, d0, ds0, p0, q0, hargs, rfl, rfl, h0, r0⟩ := trodAll_cons hA
  obtain ⟨rfl, rfl, rfl⟩ := trodAll_nil r0
  obtain rfl : args = #[v0] := by cases args; simp_all
  have hg : gs = [] := (trodVars_none hV).1
  subst hg
  suffices hwalk : Calls Try.prog 6 #[v0] W fun e W' => e = .returned (.bool true) ∧ Below W.heap.size W W' by
    refine hwalk.mono fun e W' ⟨he, hb⟩ => ?_
    subst he
    exact law_post (by kernel_rfl) rfl rfl hW' rfl hb
  obtain ⟨p, hp⟩ := open_pg (R := fun _ => True) (hval 0 25 v0 rfl rfl) h0 (fun _ _ => trivial)
  exact walk _ v0 p W hp

theorem over : Rows.nearBothRow.holds Try.pinned (OpenSpec.ofChange Rows.nearBothSpec) :=
  OpenClaim.holds_of_wide 6 Try.f6 rfl rfl rfl rfl rfl rfl rfl ⟨rfl, rfl, rfl, rfl, rfl⟩ rfl rfl rfl rfl rfl (by kernel_rfl) Try.func6 (by kernel_rfl)
    (of_decide_eq_true (by kernel_rfl)) (by unfold Func.isWrapper; first | (rw [if_pos (by decide +kernel)]; kernel_rfl) | (rw [if_neg (by decide +kernel)]; exact ⟨rfl, rfl⟩))
    (fun os started H enc _ => lifted os started H enc)

/-- the statement -/
theorem proved : Rows.NearBothSaid := over
#print axioms proved
end Go.Proofs.Ytodmkjeankbieab.nearBoth
