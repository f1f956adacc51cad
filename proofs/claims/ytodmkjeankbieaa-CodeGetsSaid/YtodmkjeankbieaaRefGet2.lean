/- The walk of the reference of chapter 11: Get. -/
import Derived.Test.YtodmkjeankbieaaRefGet
namespace Go.Proofs.Ytodmkjeankbieaa
open Go.RowKit Go.Sort
attribute [local go_sem ↓] Go.wp_at_zero Go.wp_at_succ

theorem rloop_len : ∀ (n : Nat) (s : RS), (rloop n s).1.length ≤ n
  | 0, _ => by simp [rloop]
  | n + 1, s => by
    unfold rloop
    split
    · simp
    · have := rloop_len n (rmove s).2
      simp only [List.length_cons]; omega
theorem rmoves_to {bs : List Int} (hby : ∀ x ∈ bs, 0 ≤ x ∧ x ≤ 255) {K K1 : Nat} (hK : K ≤ bs.length) (hK1 : K1 ≤ bs.length) (h : (rmoves (bs.drop K, false)).2 = (bs.drop K1, false)) : K1 ≤ K + 2296 := by
  have hb : ByL (bs.drop K, false) := fun x hx => hby x (List.mem_of_mem_drop hx)
  have h1 := (Eats.moves hb (by rw [h])).1
  have h2 := rloop_len (rget (bs.drop K, false)).1.toNat (rget (bs.drop K, false)).2
  have h3 := (rget_by hb).2.1
  have h4 : (rmoves (bs.drop K, false)).1.length ≤ 255 := by unfold rmoves; omega
  have h5 := congrArg List.length h1
  have h6 := mvs_len (rmoves (bs.drop K, false)).1
  rw [h] at h5
  simp only [List.length_drop, List.length_append] at h5
  omega
theorem rmoves_bad {s : RS} (h : ByL s) (hb : s.2 = true) : (rmoves s).2.2 = true := by
  cases hc : (rmoves s).2.2 with
  | true => rfl
  | false => have := (Eats.moves h hc).2; rw [hb] at this; cases this
theorem rrow_short {t : List Int} (h : ByL (t, false)) (hs : t.length < 6) : (rrow (t, false)).2.2 = true := by
  cases hc : (rrow (t, false)).2.2 with
  | true => rfl
  | false =>
    have := (Eats.row h hc).1
    have := congrArg List.length this
    simp [rwNums] at this
    omega
theorem rrow_six {t : List Int} (x0 x1 x2 x3 x4 x5 : Int) :
    rrow (x0 :: x1 :: x2 :: x3 :: x4 :: x5 :: t, false) = (⟨⟨x0, x1⟩, ⟨x2, x3⟩, ⟨x4, x5⟩, (rmoves (t, false)).1, (rmoves (rmoves (t, false)).2).1⟩, (rmoves (rmoves (t, false)).2).2) := rfl
theorem rrows_bad (n : Nat) (t : List Int) : (rrows n (t, true)).2.2 = true := by
  cases n <;> rfl
theorem rrows_one {n : Nat} {t : List Int} (h : (rrow (t, false)).2.2 = true) : (rrows (n + 1) (t, false)).2.2 = true := by
  unfold rrows
  simp only [Bool.false_eq_true, if_false]
  generalize rrow (t, false) = r at *
  obtain ⟨r, t', b⟩ := r
  simp only at h
  subst h
  exact rrows_bad n t'
theorem six {bs : List Int} {f : Nat} (h : f + 6 ≤ bs.length) : ∃ x0 x1 x2 x3 x4 x5 : Int, bs.drop f = x0 :: x1 :: x2 :: x3 :: x4 :: x5 :: bs.drop (f + 6) ∧
    bs[f]? = some x0 ∧ bs[f + 1]? = some x1 ∧ bs[f + 2]? = some x2 ∧ bs[f + 3]? = some x3 ∧ bs[f + 4]? = some x4 ∧ bs[f + 5]? = some x5 := by
  refine ⟨bs[f], bs[f + 1], bs[f + 2], bs[f + 3], bs[f + 4], bs[f + 5], ?_, ?_, ?_, ?_, ?_, ?_, ?_⟩
  · rw [List.drop_eq_getElem_cons (by omega : f < bs.length), List.drop_eq_getElem_cons (by omega : f + 1 < bs.length), List.drop_eq_getElem_cons (by omega : f + 2 < bs.length), List.drop_eq_getElem_cons (by omega : f + 3 < bs.length),
      List.drop_eq_getElem_cons (by omega : f + 4 < bs.length), List.drop_eq_getElem_cons (by omega : f + 5 < bs.length)]
  all_goals exact List.getElem?_eq_getElem (by omega)
theorem rall_eq {bs : List Int} {s n : Int} {t : List Int} (h : bs = s :: n :: t) : rall bs = (⟨s, (rrows n.toNat (t, false)).1⟩, (rrows n.toNat (t, false)).2) := by
  subst h; rfl
theorem rGet_short {bs : List Int} (h : bs.length < 2) : rGet bs = none := by
  match bs, h with
  | [], _ =>
    have e : rall [] = (⟨0, []⟩, ([], true)) := rfl
    exact rGet_none e (.inl rfl)
  | [x], _ =>
    have e : rall [x] = (⟨x, []⟩, ([], true)) := rfl
    exact rGet_none e (.inl rfl)
theorem rGet_bad {bs : List Int} (h : (rall bs).2.2 = true) : rGet bs = none := by
  unfold rGet; rw [h]; rfl

set_option maxHeartbeats 4000000 in
set_option maxRecDepth 100000 in
theorem refGet_any (A : Option Addr) (c : Nat) (bs : List Int) (w : World) (hr : Reads w (fun b => b < w.heap.size) 1 A bs.length (byteVals bs)) (hby : ∀ x ∈ bs, 0 ≤ x ∧ x ≤ 255) (hl : bs.length ≤ maxLen) :
    Calls Try.prog 23 #[.slice A bs.length c] w (GetRes w bs) := by
  have HR := Lib.hid hr
  have HBY := Lib.hid hby
  have hmx := hl
  unfold maxLen at hmx
  have R0 := Lib.hid (show Blk ((w.alloc (.cells #[.int .i64 0, .slice none 0 0] 34)).alloc (.cells #[.int .i64 0, .slice none 0 0] 34)) w.heap.size 34 #[.int .i64 0, .slice none 0 0] from (Blk.new w _ _).alloc _)
  have N0 := Lib.hid (show Blk ((w.alloc (.cells #[.int .i64 0, .slice none 0 0] 34)).alloc (.cells #[.int .i64 0, .slice none 0 0] 34)) (w.heap.size + 1) 34 #[.int .i64 0, .slice none 0 0] from by
    have := Blk.new (w.alloc (.cells #[.int .i64 0, .slice none 0 0] 34)) 34 #[.int .i64 0, .slice none 0 0]
    simpa using this)
  have F0 := Lib.hid (show Fr w ((w.alloc (.cells #[.int .i64 0, .slice none 0 0] 34)).alloc (.cells #[.int .i64 0, .slice none 0 0] 34)) from ((Kept.refl _ w).alloc _).alloc _)
  by_cases hsh : bs.length < 2
  · have HG := Lib.hid (rGet_short hsh)
    have hsh' : (bs.length : Int) < 2 := by omega
    clear hr hby
    go_enter Try.func23, Try.ntmps23
    go_wp2
    refine bodyPost_ret (v := .tuple #[.agg #[.int .i64 0, .slice none 0 0], .int .i64 2]) ?_ rfl ?_
    · simp [results, Try.results23, go_sem]
    · exact ⟨F0.out, .inl ⟨HG.out, rfl⟩⟩
  · have hx0 : bs[0]? = some bs[0] := List.getElem?_eq_getElem (by omega)
    have hx1 : bs[1]? = some bs[1] := List.getElem?_eq_getElem (by omega)
    have hb0 := hby _ (List.getElem_mem (show 0 < bs.length by omega))
    have hb1 := hby _ (List.getElem_mem (show 1 < bs.length by omega))
    have hcut : bs = bs[0] :: bs[1] :: bs.drop 2 := by
      conv => lhs; rw [← List.drop_zero (l := bs)]
      rw [List.drop_eq_getElem_cons (by omega : 0 < bs.length), List.drop_eq_getElem_cons (by omega : 0 + 1 < bs.length)]
    have hall := rall_eq hcut
    obtain ⟨N, hN⟩ : ∃ N : Nat, bs[1] = (N : Int) := ⟨bs[1].toNat, by omega⟩
    rw [hN] at hx1 hb1 hall
    rw [Int.toNat_natCast] at hall
    have hNl : N ≤ 255 := by omega
    have HALL := Lib.hid hall
    clear hcut hN hall
    obtain ⟨b, off, rfl, hR, hcell⟩ := hr.2 (by omega)
    have hblt : b < w.heap.size := hR
    have HC : Hid (∀ (w2 : World), Fr w w2 → ∀ (q : Nat) (x : Int), bs[q]? = some x → w2.cell? ⟨b, off + q, none⟩ = some (.int .u8 x)) := fun w2 hf q x hx => (hf.cell hblt).trans (hcell q (.int .u8 x) (by unfold byteVals; rw [List.getElem?_map, hx]; rfl))
    generalize bs[0] = s at *
    have HX0 := Lib.hid hx0
    have HX1 := Lib.hid hx1
    have c0 := HC.out _ F0.out 0 s hx0
    rw [Nat.add_zero] at c0
    have us : IntKind.i64.wrap s = s := by simp [IntKind.wrap, IntKind.bits, IntKind.signed]; omega
    have hsi : inI s := by unfold inI; omega
    have hl0 : (0 : Int) < (bs.length : Int) := by omega
    have hl1 : (1 : Int) < (bs.length : Int) := by omega
    have hl2 : ¬ (bs.length : Int) < 2 := by omega
    clear hr hby hcell hx0 hx1 hR
    have G0 : Hid (Gt w (((w.alloc (.cells #[.int .i64 0, .slice none 0 0] 34)).alloc (.cells #[.int .i64 0, .slice none 0 0] 34)).alloc (.cells #[.int .i64 s, .slice none 0 0] 34)) (w.heap.size + 2) (w.heap.size + 3) (w.heap.size + 3) s (.slice none 0 0) []) := by
      refine ⟨RwOwn.nil _ _ _, ?_, R0.out.alloc _, F0.out.alloc _⟩
      have := Blk.new ((w.alloc (.cells #[.int .i64 0, .slice none 0 0] 34)).alloc (.cells #[.int .i64 0, .slice none 0 0] 34)) 34 #[.int .i64 s, .slice none 0 0]
      simpa using this
    have N1 := Lib.hid (N0.out.alloc (.cells #[.int .i64 s, .slice none 0 0] 34))
    clear R0 N0 F0
    go_enter Try.func23, Try.ntmps23
    go_wp2
    go_loopw [6, 7] (fun kv i wr => ∃ (j n K : Nat) (v : Value) (l : List RwV), j + n = N ∧ i = .int .i64 j ∧ kv = .int .i64 K ∧ K ≤ bs.length ∧ K ≤ 2 + 4598 * j ∧ Hid (l.length = j) ∧ Hid (Gt w wr (w.heap.size + 2) (w.heap.size + 3) wr.heap.size s v l) ∧ Hid (Blk wr (w.heap.size + 1) 34 #[.int .i64 0, .slice none 0 0]) ∧
      Hid (rrows N (bs.drop 2, false) = (l.map (·.r) ++ (rrows n (bs.drop K, false)).1, (rrows n (bs.drop K, false)).2)) ∧ w.heap.size + 3 ≤ wr.heap.size) (fun _ i _ => N - (intOf i).toNat)
    case atStart => exact ⟨0, N, 2, _, [], by omega, rfl, rfl, by omega, by omega, rfl, by simpa using G0, by simpa using N1, by show _ = _; simp, by simp⟩
    case round =>
      obtain ⟨j, n, K, v, l, hjn, rfl, rfl, hK, hK2, hlj, HG, HN, hrw, hsz⟩ := hrel
      have d1 := HC.out _ HG.out.fr 1 N HX1.out
      have hbw := cell_lt d1
      have un : IntKind.i64.wrap (N : Int) = (N : Int) := by simp [IntKind.wrap, IntKind.bits, IntKind.signed]; omega
      clear G0 N1
      by_cases hj : j < N
      · obtain ⟨n', rfl⟩ : ∃ n', n = n' + 1 := ⟨n - 1, by omega⟩
        have hj' : (j : Int) < (N : Int) := by omega
        have hbyK : ByL (bs.drop K, false) := fun x hx => HBY.out x (List.mem_of_mem_drop hx)
        have HBAD : Hid ((rrow (bs.drop K, false)).2.2 = true → rGet bs = none) := fun h => rGet_bad (by rw [HALL.out]; show (rrows N (bs.drop 2, false)).2.2 = true; rw [hrw.out]; exact rrows_one h)
        by_cases h6 : bs.length < K + 6
        · have HGN := Lib.hid (HBAD.out (rrow_short hbyK (by rw [List.length_drop]; omega)))
          have h6' : (bs.length : Int) < (K : Int) + 6 := by omega
          have x0 := HG.out.res.cell 0
          have x1 := HG.out.res.cell 1
          have y0 := HG.out.res.frozen 0
          have y1 := HG.out.res.frozen 1
          have n0 := HN.out.cell 0
          have n1 := HN.out.cell 1
          have zx := HG.out.res.lt
          have zn := HN.out.lt
          simp only [List.getElem?_toArray, List.getElem?_cons_succ, List.getElem?_cons_zero] at x0 x1 n0 n1
          go_wp2
          refine bodyPost_ret (v := .tuple #[.agg #[.int .i64 0, .slice none 0 0], .int .i64 2]) ?_ rfl ?_
          · simp [results, Try.results23, go_sem, x0, x1]
          · exact ⟨(HG.out.fr.setCell (fun e => by simp at e) _).setCell (fun e => by simp at e) _, .inl ⟨HGN.out, rfl⟩⟩
        · obtain ⟨x0, x1, x2, x3, x4, x5, hd, e0, e1, e2, e3, e4, e5⟩ := six (bs := bs) (f := K) (by omega)
          have HROW := Lib.hid (show rrow (bs.drop K, false) = (⟨⟨x0, x1⟩, ⟨x2, x3⟩, ⟨x4, x5⟩, (rmoves (bs.drop (K + 6), false)).1, (rmoves (rmoves (bs.drop (K + 6), false)).2).1⟩, (rmoves (rmoves (bs.drop (K + 6), false)).2).2) from by rw [hd]; rfl)
          have HBK := Lib.hid hbyK
          have c0 := HC.out _ HG.out.fr K x0 e0
          have c1 := HC.out _ HG.out.fr (K + 1) x1 e1
          have c2 := HC.out _ HG.out.fr (K + 2) x2 e2
          have c3 := HC.out _ HG.out.fr (K + 3) x3 e3
          have c4 := HC.out _ HG.out.fr (K + 4) x4 e4
          have c5 := HC.out _ HG.out.fr (K + 5) x5 e5
          have g1 : (0 : Int) ≤ (K : Int) + 1 := by omega
          have l1 : (K : Int) + 1 < (bs.length : Int) := by omega
          have w1 : IntKind.i64.wrap ((K : Int) + 1) = (K : Int) + 1 := by simp [IntKind.wrap, IntKind.bits, IntKind.signed]; omega
          have t1 : ((K : Int) + 1).toNat = K + 1 := by omega
          have g2 : (0 : Int) ≤ (K : Int) + 2 := by omega
          have l2 : (K : Int) + 2 < (bs.length : Int) := by omega
          have w2 : IntKind.i64.wrap ((K : Int) + 2) = (K : Int) + 2 := by simp [IntKind.wrap, IntKind.bits, IntKind.signed]; omega
          have t2 : ((K : Int) + 2).toNat = K + 2 := by omega
          have g3 : (0 : Int) ≤ (K : Int) + 3 := by omega
          have l3 : (K : Int) + 3 < (bs.length : Int) := by omega
          have w3 : IntKind.i64.wrap ((K : Int) + 3) = (K : Int) + 3 := by simp [IntKind.wrap, IntKind.bits, IntKind.signed]; omega
          have t3 : ((K : Int) + 3).toNat = K + 3 := by omega
          have g4 : (0 : Int) ≤ (K : Int) + 4 := by omega
          have l4 : (K : Int) + 4 < (bs.length : Int) := by omega
          have w4 : IntKind.i64.wrap ((K : Int) + 4) = (K : Int) + 4 := by simp [IntKind.wrap, IntKind.bits, IntKind.signed]; omega
          have t4 : ((K : Int) + 4).toNat = K + 4 := by omega
          have g5 : (0 : Int) ≤ (K : Int) + 5 := by omega
          have l5 : (K : Int) + 5 < (bs.length : Int) := by omega
          have w5 : IntKind.i64.wrap ((K : Int) + 5) = (K : Int) + 5 := by simp [IntKind.wrap, IntKind.bits, IntKind.signed]; omega
          have t5 : ((K : Int) + 5).toNat = K + 5 := by omega
          have g0 : (0 : Int) ≤ (K : Int) := by omega
          have l0 : (K : Int) < (bs.length : Int) := by omega
          have l6 : ¬ (bs.length : Int) < (K : Int) + 6 := by omega
          have b0 := HBY.out x0 (List.mem_of_getElem? e0)
          have u0 : IntKind.i64.wrap x0 = x0 := by simp [IntKind.wrap, IntKind.bits, IntKind.signed]; omega
          have b1 := HBY.out x1 (List.mem_of_getElem? e1)
          have u1 : IntKind.i64.wrap x1 = x1 := by simp [IntKind.wrap, IntKind.bits, IntKind.signed]; omega
          have b2 := HBY.out x2 (List.mem_of_getElem? e2)
          have u2 : IntKind.i64.wrap x2 = x2 := by simp [IntKind.wrap, IntKind.bits, IntKind.signed]; omega
          have b3 := HBY.out x3 (List.mem_of_getElem? e3)
          have u3 : IntKind.i64.wrap x3 = x3 := by simp [IntKind.wrap, IntKind.bits, IntKind.signed]; omega
          have b4 := HBY.out x4 (List.mem_of_getElem? e4)
          have u4 : IntKind.i64.wrap x4 = x4 := by simp [IntKind.wrap, IntKind.bits, IntKind.signed]; omega
          have b5 := HBY.out x5 (List.mem_of_getElem? e5)
          have u5 : IntKind.i64.wrap x5 = x5 := by simp [IntKind.wrap, IntKind.bits, IntKind.signed]; omega
          clear hd hbyK
          go_wp2
          go_region_held3 (fun w' => w'.cell? ⟨b, off + (K), none⟩ = some (.int .u8 x0) ∧ w'.cell? ⟨b, off + (K + 1), none⟩ = some (.int .u8 x1) ∧ w'.cell? ⟨b, off + (K + 2), none⟩ = some (.int .u8 x2) ∧ w'.cell? ⟨b, off + (K + 3), none⟩ = some (.int .u8 x3) ∧ w'.cell? ⟨b, off + (K + 4), none⟩ = some (.int .u8 x4) ∧ w'.cell? ⟨b, off + (K + 5), none⟩ = some (.int .u8 x5)) (go_keep) (fail)
          have hwa : Fr wr (wr.alloc (.cells #[.int .i64 x0, .int .i64 x1, .int .i64 x2, .int .i64 x3, .int .i64 x4, .int .i64 x5, .slice none 0 0, .slice none 0 0] 72)).drew := ((Kept.refl _ wr).alloc _).drew
          have HRB := Lib.hid (show Blk (wr.alloc (.cells #[.int .i64 x0, .int .i64 x1, .int .i64 x2, .int .i64 x3, .int .i64 x4, .int .i64 x5, .slice none 0 0, .slice none 0 0] 72)).drew wr.heap.size 72 #[.int .i64 x0, .int .i64 x1, .int .i64 x2, .int .i64 x3, .int .i64 x4, .int .i64 x5, .slice none 0 0, .slice none 0 0] from (Blk.new wr _ _).drew)
          have HGa := Lib.hid (HG.out.kept hwa (fun _ _ _ h => h) (fun h => h) (fun _ _ h => h))
          have HNa := Lib.hid (HN.out.kept hwa (fun h => h))
          have hza : (wr.alloc (.cells #[.int .i64 x0, .int .i64 x1, .int .i64 x2, .int .i64 x3, .int .i64 x4, .int .i64 x5, .slice none 0 0, .slice none 0 0] 72)).drew.heap.size = wr.heap.size + 1 := by simp
          have hoks : inI x0 ∧ inI x1 ∧ inI x2 ∧ inI x3 ∧ inI x4 ∧ inI x5 := by unfold inI; omega
          have HOKS := Lib.hid hoks
          generalize (wr.alloc (.cells #[.int .i64 x0, .int .i64 x1, .int .i64 x2, .int .i64 x3, .int .i64 x4, .int .i64 x5, .slice none 0 0, .slice none 0 0] 72)).drew = wa at *
          have hza1 : wr.heap.size < wa.heap.size := by omega
          have hza2 : wa.heap.size ≤ wr.heap.size + 1 := by omega
          clear hwa hza hoks HG HN
          clear g0 l0 g1 l1 g2 l2 g3 l3 g4 l4 g5 l5 w1 t1 w2 t2 w3 t3 w4 t4 w5 t5 b0 u0 c0 e0 b1 u1 c1 e1 b2 u2 c2 e2 b3 u3 c3 e3 b4 u4 c4 e4 b5 u5 c5 e5 l6
          have hrd := refRead_any (fun x => x < w.heap.size) (some ⟨b, off, none⟩) c (K + 6) bs wa (HR.out.kept HGa.out.fr (fun _ _ h => h)) hl (by omega) (by omega) HBY.out
          rw [show ((K + 6 : Nat) : Int) = (K : Int) + 6 by omega] at hrd
          have HRD := Lib.hid hrd
          clear hrd
          go_wp2_with fail
          refine HRD.out.mono ?_
          rintro e w2 ⟨f2, he⟩
          have HRB2 := Lib.hid (HRB.out.kept f2 (fun h => h))
          have HG2 := Lib.hid (HGa.out.kept f2 (fun _ _ _ h => h) (fun h => h) (fun _ _ h => h))
          have HN2 := Lib.hid (HNa.out.kept f2 (fun h => h))
          have hz2 := f2.size
          have q6 := HRB2.out.cell 6
          have y6 := HRB2.out.frozen 6
          have zrb := HRB2.out.lt
          simp only [List.getElem?_toArray, List.getElem?_cons_succ, List.getElem?_cons_zero] at q6
          have hb6 : ByL (bs.drop (K + 6), false) := fun x hx => HBY.out x (List.mem_of_mem_drop hx)
          have hb7 := (rmoves_ok hb6).2
          have HB7 := Lib.hid hb7
          clear HRB HGa HNa HRD
          rcases he with ⟨hbad, rfl⟩ | ⟨v1, k1, hst, hk1, rfl, hmo⟩
          · have HGN := Lib.hid (HBAD.out (by rw [HROW.out]; exact rmoves_bad HB7.out hbad))
            clear hbad hb6 hb7
            have x0 := HG2.out.res.cell 0
            have x1 := HG2.out.res.cell 1
            have y0 := HG2.out.res.frozen 0
            have y1 := HG2.out.res.frozen 1
            have n0 := HN2.out.cell 0
            have n1 := HN2.out.cell 1
            have zx := HG2.out.res.lt
            have zn := HN2.out.lt
            simp only [List.getElem?_toArray, List.getElem?_cons_succ, List.getElem?_cons_zero] at x0 x1 n0 n1
            go_wp2
            refine bodyPost_ret (v := .tuple #[.agg #[.int .i64 0, .slice none 0 0], .int .i64 2]) ?_ rfl ?_
            · simp [results, Try.results23, go_sem, x0, x1]
            · exact ⟨((HG2.out.fr.setCell (fun e => by simp at e; omega) _).setCell (fun e => by simp at e) _).setCell (fun e => by simp at e) _, .inl ⟨HGN.out, rfl⟩⟩
          · have hto := rmoves_to HBY.out (by omega) hk1 hst
            obtain ⟨A1, cc1, rfl, hvl1, _⟩ := own_reads hmo
            have HMO := Lib.hid hmo
            have HOL1 := Lib.hid (fun g hg => own_lt hmo (g := g) hg)
            have HST := Lib.hid hst
            have HB7' : Hid (ByL (bs.drop k1, false)) := fun x hx => HBY.out x (List.mem_of_mem_drop hx)
            clear hmo hst hb6 hb7
            generalize hl1 : (rmoves (bs.drop (K + 6), false)).1 = l1 at *
            have HL1 := Lib.hid hl1
            clear hl1
            obtain ⟨w3, hw3⟩ : ∃ w3 : World, w3 = w2.setCell ⟨wr.heap.size, 6, none⟩ (.slice A1 l1.length cc1) := ⟨_, rfl⟩
            have hk3 : Kept (fun k => k = wr.heap.size) w2 w3 := by rw [hw3]; exact (Kept.refl (fun k => k = wr.heap.size) w2).setCell (p := ⟨wr.heap.size, 6, none⟩) (fun _ => rfl) _
            have HRB3 := Lib.hid (show Blk w3 wr.heap.size 72 #[.int .i64 x0, .int .i64 x1, .int .i64 x2, .int .i64 x3, .int .i64 x4, .int .i64 x5, .slice A1 l1.length cc1, .slice none 0 0] from by
              rw [hw3]; have := HRB2.out.set_ 6 (.slice A1 l1.length cc1); simpa using this)
            have HG3 := Lib.hid (show Gt w w3 (w.heap.size + 2) (w.heap.size + 3) wr.heap.size s v l from HG2.out.kept hk3 (fun b _ hb e => by omega) (by omega) (fun b hb e => by omega))
            have HN3 := Lib.hid (HN2.out.kept hk3 (by omega))
            have HMO3 := Lib.hid (own_kept HMO.out hk3 (fun g hg e => by have := (HOL1.out g hg).1; omega))
            have hz3 := hk3.size
            have HW3 := Lib.hid hw3
            clear hw3 hk3 HRB2 HG2 HN2 HMO
            have hrd := refRead_any (fun x => x < w.heap.size) (some ⟨b, off, none⟩) c k1 bs w3 (HR.out.kept HG3.out.fr (fun _ _ h => h)) hl hk1 (by omega) HBY.out
            have HRD := Lib.hid hrd
            clear hrd
            go_wp2_with fail
            rw [← HW3.out]
            refine HRD.out.mono ?_
            rintro e w4 ⟨f4, he⟩
            have HRB4 := Lib.hid (HRB3.out.kept f4 (fun h => h))
            have HG4 := Lib.hid (HG3.out.kept f4 (fun _ _ _ h => h) (fun h => h) (fun _ _ h => h))
            have HN4 := Lib.hid (HN3.out.kept f4 (fun h => h))
            have HMO4 := Lib.hid (own_kept HMO3.out f4 (fun _ _ h => h))
            have hz4 := f4.size
            have q7 := HRB4.out.cell 7
            have y7 := HRB4.out.frozen 7
            have zr4 := HRB4.out.lt
            simp only [List.getElem?_toArray, List.getElem?_cons_succ, List.getElem?_cons_zero] at q7
            clear HRB3 HG3 HN3 HMO3 HRD HW3 q6 y6 zrb
            rcases he with ⟨hbad, rfl⟩ | ⟨v2, k2, hst2, hk2', rfl, hmo2⟩
            · have HGN := Lib.hid (HBAD.out (by rw [HROW.out]; show (rmoves (rmoves (bs.drop (K + 6), false)).2).2.2 = true; rw [HST.out]; exact hbad))
              clear hbad
              have x0 := HG4.out.res.cell 0
              have x1 := HG4.out.res.cell 1
              have y0 := HG4.out.res.frozen 0
              have y1 := HG4.out.res.frozen 1
              have n0 := HN4.out.cell 0
              have n1 := HN4.out.cell 1
              have zx := HG4.out.res.lt
              have zn := HN4.out.lt
              simp only [List.getElem?_toArray, List.getElem?_cons_succ, List.getElem?_cons_zero] at x0 x1 n0 n1
              go_wp2
              refine bodyPost_ret (v := .tuple #[.agg #[.int .i64 0, .slice none 0 0], .int .i64 2]) ?_ rfl ?_
              · simp [results, Try.results23, go_sem, x0, x1]
              · exact ⟨((HG4.out.fr.setCell (fun e => by simp at e; omega) _).setCell (fun e => by simp at e) _).setCell (fun e => by simp at e) _, .inl ⟨HGN.out, rfl⟩⟩
            · have hto2 := rmoves_to HBY.out hk1 hk2' hst2
              have HST2 := Lib.hid hst2
              obtain ⟨A2, cc2, rfl, hvl2, _⟩ := own_reads hmo2
              have HP2 := Lib.hid hmo2
              have HOL2 := Lib.hid (fun g hg => own_lt hmo2 (g := g) hg)
              clear hmo2 hst2
              generalize hl2 : (rmoves (bs.drop k1, false)).1 = l2 at *
              have HL2 := Lib.hid hl2
              clear hl2
              have hk5 : Kept (fun k => k = wr.heap.size) w4 (w4.setCell ⟨wr.heap.size, 7, none⟩ (.slice A2 l2.length cc2)) := (Kept.refl (fun k => k = wr.heap.size) w4).setCell (p := ⟨wr.heap.size, 7, none⟩) (fun _ => rfl) _
              have HRB5 := Lib.hid (show Blk (w4.setCell ⟨wr.heap.size, 7, none⟩ (.slice A2 l2.length cc2)) wr.heap.size 72 #[.int .i64 x0, .int .i64 x1, .int .i64 x2, .int .i64 x3, .int .i64 x4, .int .i64 x5, .slice A1 l1.length cc1, .slice A2 l2.length cc2] from by
                have := HRB4.out.set_ 7 (.slice A2 l2.length cc2); simpa using this)
              have HG5 := Lib.hid (show Gt w (w4.setCell ⟨wr.heap.size, 7, none⟩ (.slice A2 l2.length cc2)) (w.heap.size + 2) (w.heap.size + 3) wr.heap.size s v l from HG4.out.kept hk5 (fun b _ hb e => by omega) (by omega) (fun b hb e => by omega))
              have HN5 := Lib.hid (HN4.out.kept hk5 (by omega))
              have HMO5 := Lib.hid (own_kept HMO4.out hk5 (fun g hg e => by have := (HOL1.out g hg).1; omega))
              have HP5 := Lib.hid (own_kept HP2.out hk5 (fun g hg e => by have := (HOL2.out g hg).1; omega))
              have hz5 := hk5.size
              obtain ⟨Av, cv, rfl, _, _⟩ := own_reads HG5.out.own.own
              have q1 := HG5.out.lbk.cell 1
              have f0 := HRB5.out.cell 0
              have f1 := HRB5.out.cell 1
              have f2' := HRB5.out.cell 2
              have f3 := HRB5.out.cell 3
              have f4' := HRB5.out.cell 4
              have f5 := HRB5.out.cell 5
              have f6 := HRB5.out.cell 6
              have f7 := HRB5.out.cell 7
              simp only [List.getElem?_toArray, List.getElem?_cons_succ, List.getElem?_cons_zero] at q1 f0 f1 f2' f3 f4' f5 f6 f7
              have hll : l.length ≤ 255 := by have := hlj.out; omega
              have hbase : w.heap.size + 3 ≤ (w4.setCell ⟨wr.heap.size, 7, none⟩ (.slice A2 l2.length cc2)).heap.size := by omega
              have HBASE := Lib.hid hbase
              clear hbase
              go_wp2_with (first
                | (at_builtin
                   refine wpList_app _ rfl slRow (.tmp 94) (.tmp 96) rfl (.slice Av l.length cv) _ _ rfl (World.ownsRow.alloc HG5.out.own.own _) (fun _ => True) _ 1 1 _ rfl (Reads.lit' (by simp) trivial rfl) ?_ ?_ ?_ ?_ ?_
                   · simp [Value.oneCell']
                   · omega
                   · unfold maxLen; omega
                   · have := HBASE.out; simp only [World.size_alloc]; omega
                   intro v7 w7 hown7 hk7 hat7
                   obtain ⟨A7, c7, rfl, _, _⟩ := own_reads hown7
                   have G7 := HG5.out.alloc (.cells #[.int .i64 x0, .int .i64 x1, .int .i64 x2, .int .i64 x3, .int .i64 x4, .int .i64 x5, .slice A1 l1.length cc1, .slice A2 l2.length cc2] 72)
                   have l7 := G7.lbk.kept hk7 (own_blk_ne G7.own.own G7.lbk (by decide))
                   have n7 := (HN5.out.alloc (.cells #[.int .i64 x0, .int .i64 x1, .int .i64 x2, .int .i64 x3, .int .i64 x4, .int .i64 x5, .slice A1 l1.length cc1, .slice A2 l2.length cc2] 72)).kept hk7 (own_blk_ne G7.own.own (HN5.out.alloc _) (by decide))
                   have p1 := l7.cell 1
                   have y1 := l7.frozen 1
                   simp only [List.getElem?_toArray, List.getElem?_cons_succ, List.getElem?_cons_zero] at p1))
              go_roundw
              case rel =>
                have hn7 : ∀ b, (Value.slice Av l.length cv).ownBlock = some b → w.heap.size + 3 ≤ b := fun b hb => (own_lt G7.own.own hb).1
                have hzz := hk7.size
                have hzw := hz5
                simp only [World.size_alloc] at hzz
                have hoks := HOKS.out
                have hmb : ∀ m ∈ l1, m.ok := fun m hm => (rmoves_ok (s := (bs.drop (K + 6), false)) (fun x hx => HBY.out x (List.mem_of_mem_drop hx))).1 m (by rw [HL1.out]; exact hm)
                have hma : ∀ m ∈ l2, m.ok := fun m hm => (rmoves_ok (s := (bs.drop k1, false)) HB7'.out).1 m (by rw [HL2.out]; exact hm)
                have ox := G7.own.snoc (x := ⟨⟨⟨x0, x1⟩, ⟨x2, x3⟩, ⟨x4, x5⟩, l1, l2⟩, .slice A1 l1.length cc1, .slice A2 l2.length cc2⟩) ⟨own_mono (World.ownsRow.alloc HMO5.out _) (by omega), own_mono (World.ownsRow.alloc HP5.out _) (by omega)⟩ ⟨⟨hoks.1, hoks.2.1⟩, ⟨hoks.2.2.1, hoks.2.2.2.1⟩, ⟨hoks.2.2.2.2.1, hoks.2.2.2.2.2⟩, hmb, hma⟩ hk7 hown7
                have kl := (Kept.refl (fun b => b = w.heap.size + 2) w7).setCell (p := ⟨w.heap.size + 2, 1, none⟩) (fun _ => rfl) (.slice A7 (l.length + 1) c7)
                have zl := kl.size
                have hrow : rrow (bs.drop K, false) = (⟨⟨x0, x1⟩, ⟨x2, x3⟩, ⟨x4, x5⟩, l1, l2⟩, (bs.drop k2, false)) := by
                  rw [HROW.out, HST.out, HL2.out, HST2.out]
                have hst := rrows_step hrow.symm rfl hrw.out
                refine ⟨j + 1, n', k2, _, l ++ [_], by omega, by go_num, rfl, hk2', by omega, by have := hlj.out; show (l ++ [_]).length = j + 1; simp; omega, ⟨(ox.kept kl (fun b hb _ e => by omega)).up zl, ?_, ?_, ?_⟩, ?_, ?_, by simp only [World.size_setCell]; omega⟩
                · have := l7.set_ 1 (.slice A7 (l.length + 1) c7)
                  simpa using this
                · exact (G7.res.kept hk7 (fun e => by have := hn7 _ e; omega)).far (by simp; omega) _
                · exact (G7.fr.then hk7 (fun i hi e => by have := hn7 _ e; omega)).setCell (fun e => by simp at e; omega) _
                · exact Lib.hid (n7.far (p := ⟨w.heap.size + 2, 1, none⟩) (by simp only; omega) _)
                · show _ = _
                  simpa using hst
              case measure => simp [intOf]; omega
      · obtain rfl : n = 0 := by omega
        have hje : j = N := by omega
        have hnj : ¬ (j : Int) < (N : Int) := by omega
        have hall := HALL.out
        rw [hrw.out] at hall
        by_cases hKe : K = bs.length
        · have hdr : bs.drop K = [] := List.drop_eq_nil_of_le (by omega)
          have HGS := Lib.hid (rGet_some (bs := bs) (p := ⟨s, l.map (·.r)⟩) (by rw [hall, hdr]; simp [rrows]))
          obtain ⟨Av, cv, rfl, _, _⟩ := own_reads HG.out.own.own
          have hne : ((K : Int) != (bs.length : Int)) = false := by simp; omega
          have q0 := HG.out.lbk.cell 0
          have q1 := HG.out.lbk.cell 1
          have zq := HG.out.lbk.lt
          simp only [List.getElem?_toArray, List.getElem?_cons_succ, List.getElem?_cons_zero] at q0 q1
          have x0 := HG.out.res.cell 0
          have x1 := HG.out.res.cell 1
          have y0 := HG.out.res.frozen 0
          have y1 := HG.out.res.frozen 1
          have n0 := HN.out.cell 0
          have n1 := HN.out.cell 1
          have zx := HG.out.res.lt
          have zn := HN.out.lt
          simp only [List.getElem?_toArray, List.getElem?_cons_succ, List.getElem?_cons_zero] at x0 x1 n0 n1
          clear hall hdr hrw hKe hje
          go_wp2
          refine bodyPost_ret (v := .tuple #[.agg #[.int .i64 s, .slice Av l.length cv], .int .i64 0]) ?_ rfl ?_
          · simp [results, Try.results23, go_sem, x0, x1]
          · have hkS := ((Kept.refl (fun k => k = w.heap.size) wr).setCell (p := ⟨w.heap.size, 0, none⟩) (fun _ => rfl) (.int .i64 s)).setCell (p := ⟨w.heap.size, 1, none⟩) (fun _ => rfl) (.slice Av l.length cv)
            refine ⟨(HG.out.fr.setCell (fun e => by simp at e) _).setCell (fun e => by simp at e) _, .inr ⟨_, _, HGS.out, rfl, _, l, rfl, hsi, ((HG.out.own.rd).kept hkS (fun x hx e => by have := hx.1; omega)).more (fun x hx => ?_), rfl⟩⟩
            simp; omega
        · have HGN := Lib.hid (rGet_none (bs := bs) (by rw [hall]) (.inr (by simp only [rrows]; intro hc; have := congrArg List.length hc; simp at this; omega)))
          have hne : ((K : Int) != (bs.length : Int)) = true := by simp; omega
          have x0 := HG.out.res.cell 0
          have x1 := HG.out.res.cell 1
          have y0 := HG.out.res.frozen 0
          have y1 := HG.out.res.frozen 1
          have n0 := HN.out.cell 0
          have n1 := HN.out.cell 1
          have zx := HG.out.res.lt
          have zn := HN.out.lt
          simp only [List.getElem?_toArray, List.getElem?_cons_succ, List.getElem?_cons_zero] at x0 x1 n0 n1
          clear hall hrw hKe hje
          go_wp2
          refine bodyPost_ret (v := .tuple #[.agg #[.int .i64 0, .slice none 0 0], .int .i64 2]) ?_ rfl ?_
          · simp [results, Try.results23, go_sem, x0, x1]
          · exact ⟨(HG.out.fr.setCell (fun e => by simp at e) _).setCell (fun e => by simp at e) _, .inl ⟨HGN.out, rfl⟩⟩
end Go.Proofs.Ytodmkjeankbieaa
