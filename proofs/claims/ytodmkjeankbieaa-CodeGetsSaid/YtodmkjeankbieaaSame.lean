/- The walks of the reference's 'Same' on places. -/
import Derived.Test.YtodmkjeankbieaaCodeRef2
import Derived.BigQuiet
import Derived.Deep.QuietTactic
namespace Go.Proofs.Ytodmkjeankbieaa
open Go.RowKit Go.Sort

theorem Kept.drewN_s {S : Nat → Prop} {a w : World} (h : Kept S a w) (n : Nat) : Kept S a (w.drewN n) := ⟨h.os, h.tape, h.output, h.size, h.block⟩

def Mv.val (m : Mv) : Value := .agg #[.int .i64 m.to.k, .int .i64 m.to.n, .int .i64 m.fr.k, .int .i64 m.fr.n, .bool m.c, .int .u32 m.n]

theorem neq_mv (a b : Mv) (w : World) : (binOp .neq 99 (.agg #[.int .i64 a.to.k, .int .i64 a.to.n, .int .i64 a.fr.k, .int .i64 a.fr.n, .bool a.c, .int .u32 a.n]) (.agg #[.int .i64 b.to.k, .int .i64 b.to.n, .int .i64 b.fr.k, .int .i64 b.fr.n, .bool b.c, .int .u32 b.n])).run Try.prog w = .ok (.bool (!decide (a = b))) w := by
  go_simp
  rcases a with ⟨⟨a1, a2⟩, ⟨a3, a4⟩, a5, a6⟩
  rcases b with ⟨⟨b1, b2⟩, ⟨b3, b4⟩, b5, b6⟩
  simp only [Mv.mk.injEq, PlaceV.mk.injEq]
  by_cases h1 : a1 = b1 <;> by_cases h2 : a2 = b2 <;> by_cases h3 : a3 = b3 <;> by_cases h4 : a4 = b4 <;> by_cases h5 : a5 = b5 <;> by_cases h6 : a6 = b6 <;> simp [h1, h2, h3, h4, h5, h6]
  all_goals omega
theorem neq_pl (a b : PlaceV) (w : World) : (binOp .neq 23 (.agg #[.int .i64 a.k, .int .i64 a.n]) (.agg #[.int .i64 b.k, .int .i64 b.n])).run Try.prog w = .ok (.bool (!decide (a = b))) w := by
  go_simp
  rcases a with ⟨a1, a2⟩
  rcases b with ⟨b1, b2⟩
  simp only [PlaceV.mk.injEq]
  by_cases h1 : a1 = b1 <;> by_cases h2 : a2 = b2 <;> simp [h1, h2]

theorem neq_pl' (a b a' b' : Int) (r : Bool) (h : (!decide ((⟨a, b⟩ : PlaceV) = ⟨a', b'⟩)) = r) (w : World) : (binOp .neq 23 (.agg #[.int .i64 a, .int .i64 b]) (.agg #[.int .i64 a', .int .i64 b'])).run Try.prog w = .ok (.bool r) w := by
  subst h
  exact neq_pl ⟨a, b⟩ ⟨a', b'⟩ w

theorem take_eq_succ {α : Type} {l l' : List α} {k : Nat} {x : α} (h : l.take k = l'.take k) (h1 : l[k]? = some x) (h2 : l'[k]? = some x) : l.take (k + 1) = l'.take (k + 1) := by
  rw [List.take_add_one, List.take_add_one, h, h1, h2]
theorem take_ne {α : Type} {l l' : List α} {k : Nat} {x y : α} (h1 : l[k]? = some x) (h2 : l'[k]? = some y) (h : x ≠ y) : l ≠ l' := by
  intro e
  rw [e, h2] at h1
  exact h (by simpa using h1.symm)

set_option maxHeartbeats 1000000 in
set_option maxRecDepth 100000 in
theorem same_any (R R' : Nat → Prop) (v v' : Value) (l l' : List Mv) (w : World) (h : RdMv w R v l) (h' : RdMv w R' v' l') :
    Calls Try.prog 43 #[v, v'] w fun e w' => e = .returned (.bool (decide (l = l'))) ∧ Fr w w' := by
  obtain ⟨A, c, rfl, hl, hr, ho⟩ := h
  obtain ⟨A', c', rfl, hl', hr', ho'⟩ := h'
  unfold maxLen at hl hl'
  by_cases hlen : l.length = l'.length
  · have e1 : (((l.length : Int)) != (l'.length : Int)) = false := by simp [hlen]
    have HL := Lib.hid hlen
    clear hlen
    go_enter Try.func43, Try.ntmps43
    go_wp2
    go_loopw [5] (fun i wr => ∃ k : Nat, k ≤ l.length ∧ i = .int .i64 k ∧ Hid (l.take k = l'.take k) ∧ Fr w wr) (fun i _ => l.length - (intOf i).toNat)
    case atStart => exact ⟨0, by omega, rfl, by unfold Hid; simp, Kept.refl _ _⟩
    case round =>
      obtain ⟨k, hk, rfl, htk, hfr⟩ := hrel
      by_cases hlt : k < l.length
      · have hlt' : k < l'.length := by rw [← HL.out]; exact hlt
        have hm : l[k]? = some l[k] := List.getElem?_eq_getElem hlt
        have hm' : l'[k]? = some l'[k] := List.getElem?_eq_getElem hlt'
        generalize l[k] = m at *
        generalize l'[k] = m' at *
        obtain ⟨b, off, rfl, _, c0, c1, c2, c3, c4, c5⟩ := (hr.kept hfr (fun _ _ h => h)).mv hm
        obtain ⟨b', off', rfl, _, d0, d1, d2, d3, d4, d5⟩ := (hr'.kept hfr (fun _ _ h => h)).mv hm'
        have hq := neq_mv m m'
        have H1 := Lib.hid hm
        have H2 := Lib.hid hm'
        clear hm hm' hr hr' ho ho'
        by_cases hmm : m = m'
        · subst hmm
          have e2 : (!decide (m = m)) = false := by simp
          rw [e2] at hq
          have H3 := Lib.hid (take_eq_succ htk.out H1.out H2.out)
          go_wp2
          go_quiet (fail)
          go_wp2
          go_roundw
          case rel => exact ⟨k + 1, by omega, by go_num, H3, hfr.drewN_s _⟩
          case measure => simp [intOf]; omega
        · have e2 : (!decide (m = m')) = true := by simp [hmm]
          rw [e2] at hq
          have e3 : Hid (decide (l = l') = false) := decide_eq_false (take_ne H1.out H2.out hmm)
          go_wp2
          go_quiet (fail)
          go_wp2
          go_ret
          exact ⟨ret_b e3.out.symm, hfr.drewN_s _⟩
      · obtain rfl : k = l.length := by omega
        have e3 : Hid (decide (l = l') = true) := by
          have := htk.out
          have h5 := HL.out
          rw [List.take_length, h5, List.take_length] at this
          exact decide_eq_true this
        clear hr hr'
        go_wp2
        go_ret
        exact ⟨ret_b e3.out.symm, hfr⟩
  · have e1 : (((l.length : Int)) != (l'.length : Int)) = true := by simp; omega
    have e3 : Hid (decide (l = l') = false) := decide_eq_false (fun e => hlen (by rw [e]))
    clear hlen
    go_enter Try.func43, Try.ntmps43
    go_wp2
    go_ret
    exact ⟨ret_b e3.out.symm, Kept.refl _ _⟩

/-- are places the same (behind a name, so that the walk leaves it alone) -/
def pdEq (p p' : Pd) : Bool := decide (p = p')

structure SmInv (w wr : World) (v1 v2 : Value) (k : Nat) (l l' : List RwV) (s s' : Int) : Prop where
  b1 : Blk wr w.heap.size 34 #[.int .i64 s, v1]
  b2 : Blk wr (w.heap.size + 1) 34 #[.int .i64 s', v2]
  fr : Fr w wr
  eq_ : (l.map (·.r)).take k = (l'.map (·.r)).take k

theorem row_ne {l l' : List RwV} {k : Nat} {x y : RwV} {s s' : Int} (h1 : l[k]? = some x) (h2 : l'[k]? = some y) (h : x.r ≠ y.r) : pdEq ⟨s, l.map (·.r)⟩ ⟨s', l'.map (·.r)⟩ = false := by
  apply decide_eq_false
  intro e
  simp only [Pd.mk.injEq] at e
  exact take_ne (l := l.map (·.r)) (l' := l'.map (·.r)) (k := k) (by simp [h1]) (by simp [h2]) h e.2

set_option maxHeartbeats 2000000 in
set_option maxRecDepth 100000 in
theorem Same_any (R R' : Nat → Prop) (v v' : Value) (p p' : Pd) (w : World) (h : RdPd w R v p) (h' : RdPd w R' v' p') :
    Calls Try.prog 24 #[v, v'] w fun e w' => e = .returned (.bool (pdEq p p')) ∧ Fr w w' := by
  obtain ⟨vr, l, rfl, hi, hr0, hp⟩ := h
  obtain ⟨vr', l', rfl, hi', hr0', hp'⟩ := h'
  obtain ⟨s, rows⟩ := p
  obtain ⟨s', rows'⟩ := p'
  simp only at hp hp' hi hi'
  subst hp hp'
  obtain ⟨A, c, rfl, hl, hr, ho⟩ := hr0
  obtain ⟨A', c', rfl, hl', hr', ho'⟩ := hr0'
  unfold maxLen at hl hl'
  by_cases hs : s = s'
  · subst hs
    by_cases hlen : l.length = l'.length
    · have e1 : (((l.length : Int)) != (l'.length : Int)) = false := by simp [hlen]
      have HL := Lib.hid hlen
      clear hlen
      go_enter Try.func24, Try.ntmps24
      go_wp2
      go_loopw [5] (fun i wr => ∃ k : Nat, k ≤ l.length ∧ i = .int .i64 k ∧ SmInv w wr (.slice A l.length c) (.slice A' l'.length c') k l l' s s) (fun i _ => l.length - (intOf i).toNat)
      case atStart =>
        refine ⟨0, by omega, rfl, (Blk.new w _ _).alloc _, ?_, ((Kept.refl _ _).alloc _).alloc _, by simp⟩
        have := Blk.new (w.alloc (.cells #[.int .i64 s, .slice A l.length c] 34)) 34 #[.int .i64 s, .slice A' l'.length c']
        simpa using this
      case round =>
        obtain ⟨k, hk, rfl, hb1, hb2, hfr, heq⟩ := hrel
        have q1 := hb1.cell 1
        have q2 := hb2.cell 1
        simp only [List.getElem?_toArray, List.getElem?_cons_succ, List.getElem?_cons_zero] at q1 q2
        have HE := Lib.hid heq
        clear heq
        have hz1 := hb2.lt
        by_cases hlt : k < l.length
        · have hlt' : k < l'.length := by rw [← HL.out]; exact hlt
          have hm : l[k]? = some l[k] := List.getElem?_eq_getElem hlt
          have hm' : l'[k]? = some l'[k] := List.getElem?_eq_getElem hlt'
          have hok := ho _ (List.getElem_mem hlt)
          have hok' := ho' _ (List.getElem_mem hlt')
          generalize l[k] = m at *
          generalize l'[k] = m' at *
          obtain ⟨b, off, rfl, _, c0, c1, c2, c3, c4, c5, c6, c7⟩ := (hr.kept hfr (fun _ _ h => h)).rw hm
          obtain ⟨b', off', rfl, _, d0, d1, d2, d3, d4, d5, d6, d7⟩ := (hr'.kept hfr (fun _ _ h => h)).rw hm'
          obtain ⟨_, _, _, rb, ra⟩ := id hok
          obtain ⟨_, _, _, rb', ra'⟩ := id hok'
          have H1 := Lib.hid hm
          have H2 := Lib.hid hm'
          clear hm hm' hr hr' ho ho' hok hok'
          rcases m with ⟨⟨⟨dk, dn⟩, ⟨ak, an⟩, ⟨bk, bn⟩, bef, aft⟩, vb, va⟩
          rcases m' with ⟨⟨⟨dk', dn'⟩, ⟨ak', an'⟩, ⟨bk', bn'⟩, bef', aft'⟩, vb', va'⟩
          have hblt := cell_lt d0
          simp only at c0 c1 c2 c3 c4 c5 c6 c7 d0 d1 d2 d3 d4 d5 d6 d7 rb ra rb' ra'
          obtain ⟨Ab, cb, rfl, _, _, _⟩ := id rb
          obtain ⟨Aa, ca, rfl, _, _, _⟩ := id ra
          obtain ⟨Ab', cb', rfl, _, _, _⟩ := id rb'
          obtain ⟨Aa', ca', rfl, _, _, _⟩ := id ra'
          by_cases hd : (⟨dk, dn⟩ : PlaceV) = ⟨dk', dn'⟩
          · have e2 : (!decide ((⟨dk, dn⟩ : PlaceV) = ⟨dk', dn'⟩)) = false := by simp [hd]
            have hqd := neq_pl' dk dn dk' dn' _ e2
            by_cases ha : (⟨ak, an⟩ : PlaceV) = ⟨ak', an'⟩
            · have e3 : (!decide ((⟨ak, an⟩ : PlaceV) = ⟨ak', an'⟩)) = false := by simp [ha]
              have hqa := neq_pl' ak an ak' an' _ e3
              by_cases hb : (⟨bk, bn⟩ : PlaceV) = ⟨bk', bn'⟩
              · have e4 : (!decide ((⟨bk, bn⟩ : PlaceV) = ⟨bk', bn'⟩)) = false := by simp [hb]
                have hqb := neq_pl' bk bn bk' bn' _ e4
                have HD := Lib.hid hd
                have HA := Lib.hid ha
                have HB := Lib.hid hb
                clear hd ha hb e2 e3 e4
                go_wp2_with fail
                refine (same_any R R' _ _ bef bef' _ ((rb.kept hfr (fun _ _ h => h)).kept (((Kept.refl (fun _ => False) wr).alloc _).alloc _) (fun _ _ h => h)) ((rb'.kept hfr (fun _ _ h => h)).kept (((Kept.refl (fun _ => False) wr).alloc _).alloc _) (fun _ _ h => h))).mono ?_
                rintro e wa ⟨rfl, fa⟩
                have z2 : ((wr.alloc (.cells #[.int .i64 dk, .int .i64 dn, .int .i64 ak, .int .i64 an, .int .i64 bk, .int .i64 bn, .slice Ab bef.length cb, .slice Aa aft.length ca] 72)).alloc (.cells #[.int .i64 dk', .int .i64 dn', .int .i64 ak', .int .i64 an', .int .i64 bk', .int .i64 bn', .slice Ab' bef'.length cb', .slice Aa' aft'.length ca'] 72)).heap.size = wr.heap.size + 1 + 1 := by simp
                have t1 := ((Blk.new wr _ _).alloc _).kept fa (fun h => h)
                have t2 := (Blk.new (wr.alloc _) _ _).kept fa (fun h => h)
                rw [World.size_alloc] at t2
                have q7 := t1.cell 7
                have p7 := t2.cell 7
                simp only [List.getElem?_toArray, List.getElem?_cons_succ, List.getElem?_cons_zero] at q7 p7
                have fw : Fr w wa := ((hfr.alloc _).alloc _).trans fa
                by_cases hbe : bef = bef'
                · have e5 : decide (bef = bef') = true := by simp [hbe]
                  rw [e5]
                  have HBE := Lib.hid hbe
                  clear hbe e5 t1 t2 z2
                  go_wp2_with fail
                  refine (same_any R R' _ _ aft aft' _ (ra.kept fw (fun _ _ h => h)) (ra'.kept fw (fun _ _ h => h))).mono ?_
                  rintro e wb ⟨rfl, fb⟩
                  by_cases haf : aft = aft'
                  · have e6 : decide (aft = aft') = true := by simp [haf]
                    rw [e6]
                    have HAF := Lib.hid haf
                    clear haf e6
                    have bb1 := ((hb1.alloc _).alloc _).kept (fa.trans fb) (fun h => h)
                    have bb2 := ((hb2.alloc _).alloc _).kept (fa.trans fb) (fun h => h)
                    go_wp2
                    go_roundw
                    case rel =>
                      refine ⟨k + 1, by omega, by go_num, bb1, bb2, fw.trans fb, ?_⟩
                      refine take_eq_succ HE.out (x := ⟨⟨dk, dn⟩, ⟨ak, an⟩, ⟨bk, bn⟩, bef, aft⟩) ?_ ?_
                      · rw [List.getElem?_map, H1.out]; rfl
                      · rw [List.getElem?_map, H2.out, HD.out, HA.out, HB.out, HBE.out, HAF.out]; rfl
                    case measure => simp [intOf]; omega
                  · have e6 : decide (aft = aft') = false := by simp [haf]
                    rw [e6]
                    have e9 : Hid _ := row_ne (s := s) (s' := s) H1.out H2.out (fun e => haf (by simp only [Rw.mk.injEq] at e; exact e.2.2.2.2))
                    clear haf e6
                    go_wp2
                    go_ret
                    exact ⟨ret_b e9.symm, fw.trans fb⟩
                · have e5 : decide (bef = bef') = false := by simp [hbe]
                  rw [e5]
                  have e9 : Hid _ := row_ne (s := s) (s' := s) H1.out H2.out (fun e => hbe (by simp only [Rw.mk.injEq] at e; exact e.2.2.2.1))
                  clear hbe e5 t1 t2 z2
                  go_wp2
                  go_ret
                  exact ⟨ret_b e9.symm, fw⟩
              · have e4 : (!decide ((⟨bk, bn⟩ : PlaceV) = ⟨bk', bn'⟩)) = true := by simp [hb]
                have hqb := neq_pl' bk bn bk' bn' _ e4
                have e9 : Hid _ := row_ne (s := s) (s' := s) H1.out H2.out (fun e => hb (by simp only [Rw.mk.injEq] at e; exact e.2.2.1))
                clear hd ha hb e2 e3 e4
                go_wp2
                go_ret
                exact ⟨ret_b e9.symm, (hfr.alloc _).alloc _⟩
            · have e3 : (!decide ((⟨ak, an⟩ : PlaceV) = ⟨ak', an'⟩)) = true := by simp [ha]
              have hqa := neq_pl' ak an ak' an' _ e3
              have e9 : Hid _ := row_ne (s := s) (s' := s) H1.out H2.out (fun e => ha (by simp only [Rw.mk.injEq] at e; exact e.2.1))
              clear hd ha e2 e3
              go_wp2
              go_ret
              exact ⟨ret_b e9.symm, (hfr.alloc _).alloc _⟩
          · have e2 : (!decide ((⟨dk, dn⟩ : PlaceV) = ⟨dk', dn'⟩)) = true := by simp [hd]
            have hqd := neq_pl' dk dn dk' dn' _ e2
            have e9 : Hid _ := row_ne (s := s) (s' := s) H1.out H2.out (fun e => hd (by simp only [Rw.mk.injEq] at e; exact e.1))
            clear hd e2
            go_wp2
            go_ret
            exact ⟨ret_b e9.symm, (hfr.alloc _).alloc _⟩
        · obtain rfl : k = l.length := by omega
          have e9 : Hid (pdEq ⟨s, l.map (·.r)⟩ ⟨s, l'.map (·.r)⟩ = true) := by
            have h1 := HE.out
            have h5 := HL.out
            rw [List.take_of_length_le (by simp), List.take_of_length_le (by simp; omega)] at h1
            exact decide_eq_true (by rw [h1])
          clear hr hr' ho ho'
          go_wp2
          go_ret
          exact ⟨ret_b e9.symm, hfr⟩
    · have e1 : (((l.length : Int)) != (l'.length : Int)) = true := by simp; omega
      have e9 : Hid (pdEq ⟨s, l.map (·.r)⟩ ⟨s, l'.map (·.r)⟩ = false) := decide_eq_false (fun e => hlen (by
        simp only [Pd.mk.injEq] at e
        have := congrArg List.length e.2
        simpa using this))
      clear hlen
      go_enter Try.func24, Try.ntmps24
      go_wp2
      go_ret
      exact ⟨ret_b e9.symm, ((Kept.refl _ _).alloc _).alloc _⟩
  · have e1 : (s != s') = true := by simp [hs]
    have e9 : Hid (pdEq ⟨s, l.map (·.r)⟩ ⟨s', l'.map (·.r)⟩ = false) := decide_eq_false (fun e => hs (by simp only [Pd.mk.injEq] at e; exact e.1))
    clear hs
    go_enter Try.func24, Try.ntmps24
    go_wp2
    go_ret
    exact ⟨ret_b e9.symm, ((Kept.refl _ _).alloc _).alloc _⟩

end Go.Proofs.Ytodmkjeankbieaa
