/- Texts of this claim, packed. -/
import Derived.Test.YtodmkjeankbieabKAllk13
import Derived.Test.YtodmkjeankbieabKAllk1
import Derived.StillTailTactics
import Derived.Shelf.SlSortCmp.WholeK
import Derived.Shelf.SlGeneric
import Derived.Shelf.SlLaysF0
import Derived.Ground.SlsfProg
set_option linter.all false
namespace Go.Proofs.Ytodmkjeankbieab
open Go.RowKit Go.Sort Go.Shelf

instance : Inhabited Fc := ⟨fc0⟩
def cmpI (a b : Int) : Int := if a < b then -1 else if b < a then 1 else 0
def trI (b : Bool) : Int := if b then 1 else 0
def orL : List Int → Int
 | [] => 0
 | x :: l => if x = 0 then orL l else x
def ordL5 (x y : Fc) : List Int := [cmpI x.pl.k y.pl.k, cmpI x.pl.n y.pl.n, trI x.temp - trI y.temp, cmpI x.t y.t, cmpI (x.n : Int) (y.n : Int)]
def ordF (x y : Fc) : Int := orL (ordL5 x y)
theorem cmpI_lt {a b : Int} : cmpI a b < 0 ↔ a < b := by unfold cmpI; split <;> (try split) <;> omega
theorem cmpI_zero {a b : Int} : cmpI a b = 0 ↔ a = b := by unfold cmpI; split <;> (try split) <;> omega
theorem tr_lt {a b : Bool} : trI a - trI b < 0 ↔ a = false ∧ b = true := by cases a <;> cases b <;> simp [trI]
theorem tr_zero {a b : Bool} : trI a - trI b = 0 ↔ a = b := by cases a <;> cases b <;> simp [trI]
def aheadF (x y : Fc) : Prop := x.pl.k < y.pl.k ∨ (x.pl.k = y.pl.k ∧ (x.pl.n < y.pl.n ∨ (x.pl.n = y.pl.n ∧ ((x.temp = false ∧ y.temp = true) ∨ (x.temp = y.temp ∧ (x.t < y.t ∨ (x.t = y.t ∧ x.n < y.n)))))))
theorem ordF_lt {x y : Fc} : ordF x y < 0 ↔ aheadF x y := by
 unfold ordF ordL5 aheadF
 simp only [orL]
 by_cases h1 : cmpI x.pl.k y.pl.k = 0
 · rw [if_pos h1]
   have e1 := cmpI_zero.1 h1
   by_cases h2 : cmpI x.pl.n y.pl.n = 0
   · rw [if_pos h2]
     have e2 := cmpI_zero.1 h2
     by_cases h3 : trI x.temp - trI y.temp = 0
     · rw [if_pos h3]
       have e3 := tr_zero.1 h3
       by_cases h4 : cmpI x.t y.t = 0
       · rw [if_pos h4]
         have e4 := cmpI_zero.1 h4
         by_cases h5 : cmpI (x.n : Int) (y.n : Int) = 0
         · rw [if_pos h5]
           have e5 := cmpI_zero.1 h5
           constructor
           · intro h; omega
           · rintro (h | ⟨_, h | ⟨_, ⟨h, h'⟩ | ⟨_, h | ⟨_, h⟩⟩⟩⟩)
             · omega
             · omega
             · rw [h, h'] at e3; cases e3
             · omega
             · omega
         · rw [if_neg h5, cmpI_lt]
           constructor
           · intro h; exact Or.inr ⟨e1, Or.inr ⟨e2, Or.inr ⟨e3, Or.inr ⟨e4, by omega⟩⟩⟩⟩
           · rintro (h | ⟨_, h | ⟨_, ⟨h, h'⟩ | ⟨_, h | ⟨_, h⟩⟩⟩⟩)
             · omega
             · omega
             · rw [h, h'] at e3; cases e3
             · omega
             · omega
       · rw [if_neg h4, cmpI_lt]
         have e4 : x.t ≠ y.t := fun h => h4 (cmpI_zero.2 h)
         constructor
         · intro h; exact Or.inr ⟨e1, Or.inr ⟨e2, Or.inr ⟨e3, Or.inl h⟩⟩⟩
         · rintro (h | ⟨_, h | ⟨_, ⟨h, h'⟩ | ⟨_, h | ⟨h, _⟩⟩⟩⟩)
           · omega
           · omega
           · rw [h, h'] at e3; cases e3
           · exact h
           · exact absurd h e4
     · rw [if_neg h3, tr_lt]
       have e3 : x.temp ≠ y.temp := fun h => h3 (tr_zero.2 h)
       constructor
       · intro h; exact Or.inr ⟨e1, Or.inr ⟨e2, Or.inl h⟩⟩
       · rintro (h | ⟨_, h | ⟨_, h | ⟨h, _⟩⟩⟩)
         · omega
         · omega
         · exact h
         · exact absurd h e3
   · rw [if_neg h2, cmpI_lt]
     have e2 : x.pl.n ≠ y.pl.n := fun h => h2 (cmpI_zero.2 h)
     constructor
     · intro h; exact Or.inr ⟨e1, Or.inl h⟩
     · rintro (h | ⟨_, h | ⟨h, _⟩⟩)
       · omega
       · exact h
       · exact absurd h e2
 · rw [if_neg h1, cmpI_lt]
   have e1 : x.pl.k ≠ y.pl.k := fun h => h1 (cmpI_zero.2 h)
   constructor
   · intro h; exact Or.inl h
   · rintro (h | ⟨h, _⟩)
     · exact h
     · exact absurd h e1
theorem ahead_irrefl (x : Fc) : ¬ aheadF x x := by
 rintro (h | ⟨_, h | ⟨_, ⟨h, h'⟩ | ⟨_, h | ⟨_, h⟩⟩⟩⟩)
 · omega
 · omega
 · rw [h] at h'; cases h'
 · omega
 · omega
theorem ahead_tri (x y : Fc) : aheadF x y ∨ x = y ∨ aheadF y x := by
 obtain ⟨⟨k, n⟩, b, t, m⟩ := x
 obtain ⟨⟨k', n'⟩, b', t', m'⟩ := y
 unfold aheadF
 simp only [Fc.mk.injEq, PlaceV.mk.injEq]
 rcases Int.lt_trichotomy k k' with h | h | h
 · exact Or.inl (Or.inl h)
 · rcases Int.lt_trichotomy n n' with h2 | h2 | h2
   · exact Or.inl (Or.inr ⟨h, Or.inl h2⟩)
   · by_cases hb : b = b'
     · rcases Int.lt_trichotomy t t' with h3 | h3 | h3
       · exact Or.inl (Or.inr ⟨h, Or.inr ⟨h2, Or.inr ⟨hb, Or.inl h3⟩⟩⟩)
       · rcases Nat.lt_trichotomy m m' with h4 | h4 | h4
         · exact Or.inl (Or.inr ⟨h, Or.inr ⟨h2, Or.inr ⟨hb, Or.inr ⟨h3, h4⟩⟩⟩⟩)
         · exact Or.inr (Or.inl ⟨⟨h, h2⟩, hb, h3, h4⟩)
         · exact Or.inr (Or.inr (Or.inr ⟨h.symm, Or.inr ⟨h2.symm, Or.inr ⟨hb.symm, Or.inr ⟨h3.symm, h4⟩⟩⟩⟩))
       · exact Or.inr (Or.inr (Or.inr ⟨h.symm, Or.inr ⟨h2.symm, Or.inr ⟨hb.symm, Or.inl h3⟩⟩⟩))
     · cases b <;> cases b'
       · exact absurd rfl hb
       · exact Or.inl (Or.inr ⟨h, Or.inr ⟨h2, Or.inl ⟨rfl, rfl⟩⟩⟩)
       · exact Or.inr (Or.inr (Or.inr ⟨h.symm, Or.inr ⟨h2.symm, Or.inl ⟨rfl, rfl⟩⟩⟩))
       · exact absurd rfl hb
   · exact Or.inr (Or.inr (Or.inr ⟨h.symm, Or.inl h2⟩))
 · exact Or.inr (Or.inr (Or.inl h))
theorem ahead_trans {x y z : Fc} (h1 : aheadF x y) (h2 : aheadF y z) : aheadF x z := by
 unfold aheadF at *
 rcases h1 with a | ⟨a, b | ⟨b, ⟨c, c'⟩ | ⟨c, d | ⟨d, e⟩⟩⟩⟩ <;> rcases h2 with a2 | ⟨a2, b2 | ⟨b2, ⟨c2, c2'⟩ | ⟨c2, d2 | ⟨d2, e2⟩⟩⟩⟩
 all_goals first
   | exact Or.inl (by omega)
   | exact Or.inr ⟨by omega, Or.inl (by omega)⟩
   | exact Or.inr ⟨by omega, Or.inr ⟨by omega, Or.inl ⟨c, c2 ▸ c'⟩⟩⟩
   | exact Or.inr ⟨by omega, Or.inr ⟨by omega, Or.inl ⟨c ▸ c2, c2'⟩⟩⟩
   | (rw [c'] at c2; cases c2; done)
   | exact Or.inr ⟨by omega, Or.inr ⟨by omega, Or.inr ⟨c.trans c2, Or.inl (by omega)⟩⟩⟩
   | exact Or.inr ⟨by omega, Or.inr ⟨by omega, Or.inr ⟨c.trans c2, Or.inr ⟨by omega, by omega⟩⟩⟩⟩
theorem ordF_swo : SWO (ltOf ordF) := by
 have e : ∀ x y, ltOf ordF x y = true ↔ aheadF x y := fun x y => by unfold ltOf; rw [decide_eq_true_eq]; exact ordF_lt
 have en : ∀ x y, ltOf ordF x y = false ↔ ¬ aheadF x y := fun x y => by rw [← e x y]; simp
 refine ⟨fun x => (en x x).2 (ahead_irrefl x), fun x y z h1 h2 => (e x z).2 (ahead_trans ((e x y).1 h1) ((e y z).1 h2)), fun x y z h1 h2 => (en x z).2 fun h => ?_⟩
 have h1 := (en x y).1 h1
 have h2 := (en y z).1 h2
 rcases ahead_tri y z with h3 | h3 | h3
 · exact h2 h3
 · subst h3; exact h1 h
 · exact h1 (ahead_trans h h3)

theorem isNaNI_any (a : Int) (w : World) : Calls Try.prog 147 #[.int .i64 a] w fun e w' => e = .returned (.bool false) ∧ w' = w := by
 go_enter Try.func147, Try.ntmps147
 go_wp2
 go_ret
 exact ⟨by simp, rfl⟩
theorem isNaNU_any (a : Int) (w : World) : Calls Try.prog 148 #[.int .u32 a] w fun e w' => e = .returned (.bool false) ∧ w' = w := by
 go_enter Try.func148, Try.ntmps148
 go_wp2
 go_ret
 exact ⟨by simp, rfl⟩
set_option maxRecDepth 100000 in
theorem cmpInt_any (a b : Int) (w : World) : Calls Try.prog 130 #[.int .i64 a, .int .i64 b] w fun e w' => e = .returned (.int .i64 (cmpI a b)) ∧ w' = w := by
 have HA := Lib.hid (isNaNI_any a w)
 have HB := Lib.hid (isNaNI_any b w)
 by_cases h1 : a < b
 · have HE := Lib.hid (show cmpI a b = -1 from by unfold cmpI; rw [if_pos h1])
   go_enter Try.func130, Try.ntmps130
   go_wp2_with fail
   refine HA.out.mono ?_
   rintro e w' ⟨rfl, rfl⟩
   go_wp2_with fail
   refine HB.out.mono ?_
   rintro e w' ⟨rfl, rfl⟩
   go_wp2
   go_ret
   exact ⟨by rw [HE.out]; rfl, rfl⟩
 · by_cases h2 : b < a
   · have HE := Lib.hid (show cmpI a b = 1 from by unfold cmpI; rw [if_neg h1, if_pos h2])
     go_enter Try.func130, Try.ntmps130
     go_wp2_with fail
     refine HA.out.mono ?_
     rintro e w' ⟨rfl, rfl⟩
     go_wp2_with fail
     refine HB.out.mono ?_
     rintro e w' ⟨rfl, rfl⟩
     go_wp2
     go_ret
     exact ⟨by rw [HE.out]; rfl, rfl⟩
   · have HE := Lib.hid (show cmpI a b = 0 from by unfold cmpI; rw [if_neg h1, if_neg h2])
     go_enter Try.func130, Try.ntmps130
     go_wp2_with fail
     refine HA.out.mono ?_
     rintro e w' ⟨rfl, rfl⟩
     go_wp2_with fail
     refine HB.out.mono ?_
     rintro e w' ⟨rfl, rfl⟩
     go_wp2
     go_ret
     exact ⟨by rw [HE.out]; rfl, rfl⟩
set_option maxRecDepth 100000 in
theorem cmpU_any (a b : Int) (w : World) : Calls Try.prog 131 #[.int .u32 a, .int .u32 b] w fun e w' => e = .returned (.int .i64 (cmpI a b)) ∧ w' = w := by
 have HA := Lib.hid (isNaNU_any a w)
 have HB := Lib.hid (isNaNU_any b w)
 by_cases h1 : a < b
 · have HE := Lib.hid (show cmpI a b = -1 from by unfold cmpI; rw [if_pos h1])
   go_enter Try.func131, Try.ntmps131
   go_wp2_with fail
   refine HA.out.mono ?_
   rintro e w' ⟨rfl, rfl⟩
   go_wp2_with fail
   refine HB.out.mono ?_
   rintro e w' ⟨rfl, rfl⟩
   go_wp2
   go_ret
   exact ⟨by rw [HE.out]; rfl, rfl⟩
 · by_cases h2 : b < a
   · have HE := Lib.hid (show cmpI a b = 1 from by unfold cmpI; rw [if_neg h1, if_pos h2])
     go_enter Try.func131, Try.ntmps131
     go_wp2_with fail
     refine HA.out.mono ?_
     rintro e w' ⟨rfl, rfl⟩
     go_wp2_with fail
     refine HB.out.mono ?_
     rintro e w' ⟨rfl, rfl⟩
     go_wp2
     go_ret
     exact ⟨by rw [HE.out]; rfl, rfl⟩
   · have HE := Lib.hid (show cmpI a b = 0 from by unfold cmpI; rw [if_neg h1, if_neg h2])
     go_enter Try.func131, Try.ntmps131
     go_wp2_with fail
     refine HA.out.mono ?_
     rintro e w' ⟨rfl, rfl⟩
     go_wp2_with fail
     refine HB.out.mono ?_
     rintro e w' ⟨rfl, rfl⟩
     go_wp2
     go_ret
     exact ⟨by rw [HE.out]; rfl, rfl⟩
theorem truth_any (b : Bool) (w : World) : Calls Try.prog 128 #[.bool b] w fun e w' => e = .returned (.int .i64 (trI b)) ∧ w' = w := by
 cases b
 · go_enter Try.func128, Try.ntmps128
   go_wp2
   go_ret
   exact ⟨rfl, rfl⟩
 · go_enter Try.func128, Try.ntmps128
   go_wp2
   go_ret
   exact ⟨rfl, rfl⟩
set_option maxRecDepth 100000 in
theorem orI_any (g : Nat) (l : List Int) (w : World) (h : Blk w g 3 (l.map (Value.int .i64)).toArray) (h100 : l.length ≤ 100) : Calls Try.prog 129 #[.slice (some ⟨g, 0, none⟩) l.length l.length] w fun e w' => e = .returned (.int .i64 (orL l)) ∧ w' = w := by
 have HB := Lib.hid h
 have H0 := Lib.hid (show orL (l.drop 0) = orL l from rfl)
 go_enter Try.func129, Try.ntmps129
 go_wp2
 go_loopw [8] (fun i wr => ∃ k : Nat, i = .int .i64 (k : Int) ∧ k ≤ l.length ∧ Hid (orL (l.drop k) = orL l) ∧ w = wr) (fun i _ => l.length - (intOf i).toNat)
 case atStart => exact ⟨0, rfl, Nat.zero_le _, H0, rfl⟩
 case round =>
   obtain ⟨k, rfl, hk, hl, rfl⟩ := hrel
   clear H0
   have hk0 : (0 : Int) ≤ (k : Int) := Int.natCast_nonneg _
   by_cases hkl : k < l.length
   · obtain ⟨x, hx⟩ : ∃ x, l[k]? = some x := ⟨_, List.getElem?_eq_getElem hkl⟩
     have u := HB.out.cell k
     rw [List.getElem?_toArray, List.getElem?_map, hx] at u
     simp only [Option.map_some] at u
     have hg := HB.out.lt
     have hk1 : (k : Int) < (l.length : Int) := by omega
     have hd : l.drop k = x :: l.drop (k + 1) := by
       obtain ⟨_, e⟩ := List.getElem?_eq_some_iff.1 hx
       rw [List.drop_eq_getElem_cons hkl, e]
     clear hx
     by_cases h0 : x = 0
     · have HN := Lib.hid (show orL (l.drop (k + 1)) = orL l from by rw [← hl.out, hd]; simp [orL, h0])
       clear hd
       subst h0
       go_wp2
       go_roundw
       case rel => exact ⟨k + 1, by go_num, by omega, HN, trivial⟩
       case measure => simp [intOf] <;> omega
     · have HN := Lib.hid (show orL l = x from by rw [← hl.out, hd]; simp [orL, h0])
       have h0' : (x != 0) = true := by simpa using h0
       have h0'' : (x == 0) = false := by simpa using h0
       clear hd
       go_wp2
       go_ret
       exact ⟨by rw [HN.out]; rfl, rfl⟩
   · obtain rfl : k = l.length := by omega
     have HN := Lib.hid (show orL l = 0 from by rw [← hl.out, List.drop_length]; rfl)
     go_wp2
     go_ret
     exact ⟨by rw [HN.out]; rfl, rfl⟩
set_option maxHeartbeats 2000000 in
set_option maxRecDepth 100000 in
theorem order_any (x y : Fc) (w : World) : Calls Try.prog 105 #[.agg x.cellL.toArray, .agg y.cellL.toArray] w fun e w' => e = .returned (.int .i64 (ordF x y)) ∧ ∃ q os', w' = grow (w.drewN q) os' := by
 obtain ⟨⟨xk, xn⟩, xb, xt, xm⟩ := x
 obtain ⟨⟨yk, yn⟩, yb, yt, ym⟩ := y
 have HE := Lib.hid (show ordF ⟨⟨xk, xn⟩, xb, xt, xm⟩ ⟨⟨yk, yn⟩, yb, yt, ym⟩ = orL [cmpI xk yk, cmpI xn yn, trI xb - trI yb, cmpI xt yt, cmpI (xm : Int) (ym : Int)] from rfl)
 generalize ordF ⟨⟨xk, xn⟩, xb, xt, xm⟩ ⟨⟨yk, yn⟩, yb, yt, ym⟩ = r at *
 unfold Fc.cellL
 simp only
 have C1 := Lib.hid (fun w => cmpInt_any xk yk w)
 have C2 := Lib.hid (fun w => cmpInt_any xn yn w)
 have C3 := Lib.hid (fun w => truth_any xb w)
 have C4 := Lib.hid (fun w => truth_any yb w)
 have C5 := Lib.hid (fun w => cmpInt_any xt yt w)
 have C6 := Lib.hid (fun w => cmpU_any (xm : Int) (ym : Int) w)
 have HK := Lib.hid (show ((w.alloc (.cells #[.int .i64 xk, .int .i64 xn, .bool xb, .int .i64 xt, .int .u32 (xm : Int)] 140)).alloc (.cells #[.int .i64 yk, .int .i64 yn, .bool yb, .int .i64 yt, .int .u32 (ym : Int)] 140)) = grow w #[.cells #[.int .i64 xk, .int .i64 xn, .bool xb, .int .i64 xt, .int .u32 (xm : Int)] 140, .cells #[.int .i64 yk, .int .i64 yn, .bool yb, .int .i64 yt, .int .u32 (ym : Int)] 140] from rfl)
 have B1 := Lib.hid (show Blk ((w.alloc (.cells #[.int .i64 xk, .int .i64 xn, .bool xb, .int .i64 xt, .int .u32 (xm : Int)] 140)).alloc (.cells #[.int .i64 yk, .int .i64 yn, .bool yb, .int .i64 yt, .int .u32 (ym : Int)] 140)) w.heap.size 140 _ from (Blk.new w _ _).alloc _)
 have B2 := Lib.hid (show Blk ((w.alloc (.cells #[.int .i64 xk, .int .i64 xn, .bool xb, .int .i64 xt, .int .u32 (xm : Int)] 140)).alloc (.cells #[.int .i64 yk, .int .i64 yn, .bool yb, .int .i64 yt, .int .u32 (ym : Int)] 140)) (w.heap.size + 1) 140 #[.int .i64 yk, .int .i64 yn, .bool yb, .int .i64 yt, .int .u32 (ym : Int)] from by
   have := Blk.new (w.alloc (.cells #[.int .i64 xk, .int .i64 xn, .bool xb, .int .i64 xt, .int .u32 (xm : Int)] 140)) 140 #[.int .i64 yk, .int .i64 yn, .bool yb, .int .i64 yt, .int .u32 (ym : Int)]
   simpa using this)
 go_enter Try.func105, Try.ntmps105
 go_upto_region 2 with fail
 generalize ((w.alloc (.cells #[.int .i64 xk, .int .i64 xn, .bool xb, .int .i64 xt, .int .u32 (xm : Int)] 140)).alloc (.cells #[.int .i64 yk, .int .i64 yn, .bool yb, .int .i64 yt, .int .u32 (ym : Int)] 140)) = W at *
 have c0 := B1.out.cell 0
 have c1 := B1.out.cell 1
 have c2 := B1.out.cell 2
 have c3 := B1.out.cell 3
 have c4 := B1.out.cell 4
 have d0 := B2.out.cell 0
 have d1 := B2.out.cell 1
 have d2 := B2.out.cell 2
 have d3 := B2.out.cell 3
 have d4 := B2.out.cell 4
 have z1 := B1.out.lt
 have z2 := B2.out.lt
 simp only [List.getElem?_toArray, List.getElem?_cons_succ, List.getElem?_cons_zero] at c0 c1 c2 c3 c4 d0 d1 d2 d3 d4
 have hx0 : 0 ≤ trI xb ∧ trI xb ≤ 1 := by cases xb <;> decide
 have hy0 : 0 ≤ trI yb ∧ trI yb ≤ 1 := by cases yb <;> decide
 obtain ⟨hx0, hx1⟩ := hx0
 obtain ⟨hy0, hy1⟩ := hy0
 have HG : ∀ (w : World) (a b c : Obj), (grow w #[a, b]).drew.alloc c = grow (w.drewN 1) #[a, b, c] := fun _ _ _ _ => rfl
 have HLIT := Lib.hid (fun l : List Int => (Blk.new W.drew 3 (l.map (Value.int .i64)).toArray))
 have HOR := Lib.hid (fun (l : List Int) (h : l.length ≤ 100) => orI_any W.drew.heap.size l (W.drew.alloc (.cells (l.map (Value.int .i64)).toArray 3)) (Blk.new W.drew 3 _) h)
 refine wp_region_still_tail 33 (by kernel_rfl) (by kernel_rfl) ?_
 simp only [List.take_succ_cons, List.take_zero, List.drop_succ_cons, List.drop_zero]
 show wpStill _ _ (World.drew W) (fun a' => wpList _ _ _ _ a' (World.drew W)) _ _
 repeat still_step
 still_call (C1.out _)
 repeat still_step
 still_call (C2.out _)
 repeat still_step
 still_call (C3.out _)
 repeat still_step
 still_call (C4.out _)
 repeat still_step
 still_call (C5.out _)
 repeat still_step
 still_call (C6.out _)
 refine wpStill_nil ?_
 clear C1 C2 C3 C4 C5 C6 c0 c1 c2 c3 c4 d0 d1 d2 d3 d4
 generalize cmpI xk yk = r1 at *
 generalize cmpI xn yn = r2 at *
 generalize cmpI xt yt = r3 at *
 generalize cmpI (xm : Int) (ym : Int) = r4 at *
 have HO := Lib.hid (HOR.out [r1, r2, trI xb - trI yb, r3, r4] (by simp))
 clear HOR HLIT
 simp only [List.map_cons, List.map_nil, List.length_cons, List.length_nil] at HO
 go_wp2_with fail
 refine HO.out.mono ?_
 rintro e w' ⟨rfl, rfl⟩
 go_wp2
 go_ret
 exact ⟨by rw [HE.out]; rfl, 1, _, by rw [HK.out]; exact HG _ _ _ _⟩
end Go.Proofs.Ytodmkjeankbieab


namespace Go.Proofs.Ytodmkjeankbieab
open Go.Sort

theorem aheadF_uniq : ∀ {l m : List Fc}, l.Pairwise aheadF → m.Pairwise aheadF → (∀ f, f ∈ l ↔ f ∈ m) → l = m
 | [], [], _, _, _ => rfl
 | [], y :: m, _, _, h => absurd ((h y).2 List.mem_cons_self) (by simp)
 | x :: l, [], _, _, h => absurd ((h x).1 List.mem_cons_self) (by simp)
 | x :: l, y :: m, hl, hm, h => by
   have hl' := List.pairwise_cons.1 hl
   have hm' := List.pairwise_cons.1 hm
   have e : x = y := by
     rcases List.mem_cons.1 ((h x).1 List.mem_cons_self) with e | hx
     · exact e
     · rcases List.mem_cons.1 ((h y).2 List.mem_cons_self) with e | hy
       · exact e.symm
       · exact absurd (ahead_trans (hl'.1 y hy) (hm'.1 x hx)) (ahead_irrefl x)
   subst e
   congr 1
   refine aheadF_uniq hl'.2 hm'.2 fun f => ?_
   constructor
   · intro hf
     rcases List.mem_cons.1 ((h f).1 (List.mem_cons_of_mem _ hf)) with e | h2
     · exact absurd (e ▸ hl'.1 f hf) (ahead_irrefl x)
     · exact h2
   · intro hf
     rcases List.mem_cons.1 ((h f).2 (List.mem_cons_of_mem _ hf)) with e | h2
     · exact absurd (e ▸ hm'.1 f hf) (ahead_irrefl x)
     · exact h2
theorem sorted_pairwise {l : List Fc} (hn : l.Nodup) (hs : ∀ i j, i < j → (hj : j < l.length) → (hi : i < l.length) → ¬ aheadF l[j] l[i]) : l.Pairwise aheadF := by
 rw [List.pairwise_iff_getElem]
 intro i j hi hj hij
 rcases ahead_tri l[i] l[j] with h | h | h
 · exact h
 · exact absurd h (List.pairwise_iff_getElem.1 hn i j hi hj hij)
 · exact absurd h (hs i j hij hj hi)

section
variable {p : Pg} {ns : List Nat} {sg sl : Nat}
theorem pair_map {α β : Type} {f : α → β} {R : α → α → Prop} {S : β → β → Prop} (h : ∀ x y, R x y → S (f x) (f y)) {l : List α} (hl : l.Pairwise R) : (l.map f).Pairwise S := by
 rw [List.pairwise_map]; exact hl.imp (fun h' => h _ _ h')
theorem pair_flat {α β : Type} {f : α → List β} {R : α → α → Prop} {S : β → β → Prop} : ∀ {l : List α}, (∀ x ∈ l, (f x).Pairwise S) → (∀ x y, R x y → ∀ u ∈ f x, ∀ v ∈ f y, S u v) → l.Pairwise R → (l.flatMap f).Pairwise S
 | [], _, _, _ => by simp
 | x :: l, h1, h2, h3 => by
   have h3 := List.pairwise_cons.1 h3
   rw [List.flatMap_cons]
   refine List.pairwise_append.2 ⟨h1 x List.mem_cons_self, pair_flat (fun y hy => h1 y (List.mem_cons_of_mem _ hy)) h2 h3.2, fun u hu v hv => ?_⟩
   obtain ⟨y, hy, hv⟩ := List.mem_flatMap.1 hv
   exact h2 x y (h3.1 y hy) u hu v hv
theorem range_up (n : Nat) : (List.range n).Pairwise (· < ·) := List.pairwise_lt_range
theorem knFs_up (h : NumsOk p ns) : (knFs p ns).Pairwise aheadF := by
 unfold knFs
 refine pair_flat (R := (· < ·)) (fun t _ => ?_) (fun t t' htt u hu v hv => ?_) (range_up _)
 · split
   · exact List.Pairwise.nil
   · exact pair_map (R := (· < ·)) (S := aheadF) (fun x y (hxy : x < y) => Or.inr ⟨rfl, Or.inr ⟨rfl, Or.inr ⟨rfl, Or.inr ⟨rfl, hxy⟩⟩⟩⟩) h.up
 · split at hu
   · cases hu
   · split at hv
     · cases hv
     · obtain ⟨n, _, rfl⟩ := List.mem_map.1 hu
       obtain ⟨m, _, rfl⟩ := List.mem_map.1 hv
       exact Or.inr ⟨rfl, Or.inr ⟨rfl, Or.inr ⟨rfl, Or.inl (by simp only [knF]; omega)⟩⟩⟩
theorem placeFs_up (h : NumsOk p ns) (a : PlaceV) : (placeFs p ns a).Pairwise aheadF := by
 unfold placeFs
 refine List.pairwise_append.2 ⟨?_, ?_, fun u hu v hv => ?_⟩
 · split
   · exact List.Pairwise.nil
   · exact pair_map (R := (· < ·)) (S := aheadF) (fun x y (hxy : x < y) => Or.inr ⟨rfl, Or.inr ⟨rfl, Or.inr ⟨rfl, Or.inr ⟨rfl, hxy⟩⟩⟩⟩) h.up
 · exact pair_map (R := (· < ·)) (S := aheadF) (fun x y (hxy : x < y) => Or.inr ⟨rfl, Or.inr ⟨rfl, Or.inr ⟨rfl, Or.inl (by simp only [hasF]; omega)⟩⟩⟩) ((range_up _).filter _)
 · obtain ⟨t, _, rfl⟩ := List.mem_map.1 hv
   split at hu
   · cases hu
   · obtain ⟨n, _, rfl⟩ := List.mem_map.1 hu
     exact Or.inr ⟨rfl, Or.inr ⟨rfl, Or.inl ⟨rfl, rfl⟩⟩⟩
def plUp (a b : PlaceV) : Prop := a.k < b.k ∨ (a.k = b.k ∧ a.n < b.n)
theorem placesL_up (sg sl : Nat) : (placesL sg sl).Pairwise plUp := by
 unfold placesL
 have hm : ∀ (k : Int) (n : Nat), ((List.range n).map fun (i : Nat) => (⟨k, (i : Int)⟩ : PlaceV)).Pairwise plUp := fun k n =>
   pair_map (R := (· < ·)) (S := plUp) (fun x y (hxy : x < y) => Or.inr ⟨rfl, by simp only; omega⟩) (range_up _)
 refine List.pairwise_append.2 ⟨hm _ _, List.pairwise_append.2 ⟨hm _ _, hm _ _, ?_⟩, ?_⟩
 · intro u hu v hv
   obtain ⟨_, _, rfl⟩ := List.mem_map.1 hu
   obtain ⟨_, _, rfl⟩ := List.mem_map.1 hv
   exact Or.inl (by simp only; decide)
 · intro u hu v hv
   obtain ⟨_, _, rfl⟩ := List.mem_map.1 hu
   rcases List.mem_append.1 hv with hv | hv
   · obtain ⟨_, _, rfl⟩ := List.mem_map.1 hv
     exact Or.inl (by simp only; decide)
   · obtain ⟨_, _, rfl⟩ := List.mem_map.1 hv
     exact Or.inl (by simp only; decide)
theorem allFs_up (h : NumsOk p ns) : (allFs p ns sg sl).Pairwise aheadF := by
 unfold allFs
 refine List.pairwise_append.2 ⟨knFs_up h, pair_flat (R := plUp) (fun a _ => placeFs_up h a) (fun a b hab u hu v hv => ?_) (placesL_up sg sl), fun u hu v hv => ?_⟩
 · have e1 := placeFs_pl hu
   have e2 := placeFs_pl hv
   rcases hab with h | ⟨h, h'⟩
   · exact Or.inl (by rw [e1, e2]; exact h)
   · exact Or.inr ⟨by rw [e1, e2]; exact h, Or.inl (by rw [e1, e2]; exact h')⟩
 · obtain ⟨a, ha, hv⟩ := List.mem_flatMap.1 hv
   have e1 := knFs_pl hu
   have e2 := placeFs_pl hv
   have hk := isB_kind (placesL_mem.1 ha)
   exact Or.inl (by rw [e1, e2]; simp only; omega)
end
end Go.Proofs.Ytodmkjeankbieab


namespace Go.Proofs.Ytodmkjeankbieab
open Go.Shelf
def sortRen6 : Go.Shelf.Ren := ⟨fun | 6 => 104 | 15 => 127 | 14 => 126 | 28 => 145 | 29 => 146 | 20 => 137 | 21 => 138 | 22 => 139 | 23 => 140 | 24 => 141 | 25 => 142 | 26 => 143 | 27 => 144 | 46 => 150 | 47 => 151 | 48 => 152 | 49 => 153 | 50 => 154 | 57 => 155 | n => n, fun | 22 => 118 | 24 => 140 | 25 => 171 | 3 => 3 | 39 => 141 | 0 => 0 | 53 => 36 | 55 => 81 | 4 => 4 | 46 => 199 | 45 => 198 | 50 => 203 | 5 => 5 | 9 => 9 | 66 => 208 | 70 => 212 | 76 => 214 | 77 => 93 | n => n, fun | n => n⟩
theorem sortLays6 : Go.Proofs.SlLaysF0.n6 Try.prog sortRen6 := {
 mixed := by kernel_rfl
 f6 := ⟨Try.f104.name, by decide, Try.func104.trans (congrArg some (by kernel_rfl))⟩
 f14 := ⟨Try.f126.name, by decide, Try.func126.trans (congrArg some (by kernel_rfl))⟩
 f15 := Try.func127.trans (congrArg some (by kernel_rfl))
 f20 := ⟨Try.f137.name, by decide, Try.func137.trans (congrArg some (by kernel_rfl))⟩
 f21 := ⟨Try.f138.name, by decide, Try.func138.trans (congrArg some (by kernel_rfl))⟩
 f22 := ⟨Try.f139.name, by decide, Try.func139.trans (congrArg some (by kernel_rfl))⟩
 f23 := ⟨Try.f140.name, by decide, Try.func140.trans (congrArg some (by kernel_rfl))⟩
 f24 := ⟨Try.f141.name, by decide, Try.func141.trans (congrArg some (by kernel_rfl))⟩
 f25 := ⟨Try.f142.name, by decide, Try.func142.trans (congrArg some (by kernel_rfl))⟩
 f26 := ⟨Try.f143.name, by decide, Try.func143.trans (congrArg some (by kernel_rfl))⟩
 f27 := ⟨Try.f144.name, by decide, Try.func144.trans (congrArg some (by kernel_rfl))⟩
 f28 := Try.func145.trans (congrArg some (by kernel_rfl))
 f29 := Try.func146.trans (congrArg some (by kernel_rfl))
 f46 := ⟨Try.f150.name, by decide, Try.func150.trans (congrArg some (by kernel_rfl))⟩
 f47 := Try.func151.trans (congrArg some (by kernel_rfl))
 f48 := Try.func152.trans (congrArg some (by kernel_rfl))
 f49 := ⟨Try.f153.name, by decide, Try.func153.trans (congrArg some (by kernel_rfl))⟩
 f50 := ⟨Try.f154.name, by decide, Try.func154.trans (congrArg some (by kernel_rfl))⟩
 f57 := ⟨Try.f155.name, by decide, Try.func155.trans (congrArg some (by kernel_rfl))⟩
 t0 := Try.underlying0
 a0 := Try.isAgg0
 z0 := Try.sizeOf0
 v0 := Try.zeroValue0
 t3 := Try.underlying3
 a3 := Try.isAgg3
 z3 := Try.sizeOf3
 v3 := Try.zeroValue3
 t4 := Try.underlying4
 a4 := Try.isAgg4
 z4 := Try.sizeOf4
 v4 := Try.zeroValue4
 t5 := Try.underlying5
 a5 := Try.isAgg5
 z5 := Try.sizeOf5
 v5 := Try.zeroValue5
 t9 := Try.underlying9
 a9 := Try.isAgg9
 z9 := Try.sizeOf9
 v9 := Try.zeroValue9
 t22 := Try.underlying118
 a22 := Try.isAgg118
 z22 := Try.sizeOf118
 v22 := Try.zeroValue118
 t25 := Try.underlying171
 a25 := Try.isAgg171
 z25 := Try.sizeOf171
 v25 := Try.zeroValue171
 t39 := Try.underlying141
 a39 := Try.isAgg141
 z39 := Try.sizeOf141
 v39 := Try.zeroValue141
 t45 := Try.underlying198
 a45 := Try.isAgg198
 z45 := Try.sizeOf198
 v45 := Try.zeroValue198
 t46 := Try.underlying199
 a46 := Try.isAgg199
 z46 := Try.sizeOf199
 v46 := Try.zeroValue199
 t50 := Try.underlying203
 a50 := Try.isAgg203
 z50 := Try.sizeOf203
 v50 := Try.zeroValue203
 t53 := Try.underlying36
 a53 := Try.isAgg36
 z53 := Try.sizeOf36
 v53 := Try.zeroValue36
 t55 := Try.underlying81
 a55 := Try.isAgg81
 z55 := Try.sizeOf81
 v55 := Try.zeroValue81
 t66 := Try.underlying208
 a66 := Try.isAgg208
 z66 := Try.sizeOf208
 v66 := Try.zeroValue208
 t70 := Try.underlying212
 a70 := Try.isAgg212
 z70 := Try.sizeOf212
 v70 := Try.zeroValue212
 t76 := Try.underlying214
 a76 := Try.isAgg214
 z76 := Try.sizeOf214
 v76 := Try.zeroValue214
 t77 := Try.underlying93
 a77 := Try.isAgg93
 z77 := Try.sizeOf93
 v77 := Try.zeroValue93 }
end Go.Proofs.Ytodmkjeankbieab

