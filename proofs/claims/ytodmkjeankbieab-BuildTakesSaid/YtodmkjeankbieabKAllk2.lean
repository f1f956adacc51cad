/- Texts of this claim, packed. -/
import Derived.Test.YtodmkjeankbieabKAllk0
set_option linter.all false
namespace Go.Proofs.Ytodmkjeankbieab

def regAt (regs : List PlaceV) (t : Int) : PlaceV := regs.getD t.toNat ⟨0, 0⟩
def scr (wide : List Bool) (sg t j : Int) : PlaceV := if wd wide t then ⟨2, sg / 2 - 1 - j⟩ else ⟨1, sg - 2 - 2 * j⟩
def slotP (t : Int) : PlaceV := ⟨3, t⟩
def home (regs : List PlaceV) (t : Int) : PlaceV := if (regAt regs t).k ≠ 0 then regAt regs t else slotP t
def takeP (wide : List Bool) (sg : Int) (regs : List PlaceV) (t j : Int) : PlaceV := if (regAt regs t).k ≠ 0 then regAt regs t else scr wide sg t j
def takeM (wide : List Bool) (sg : Int) (regs : List PlaceV) (kn : Int → Option Nat) (t j : Int) : List Mv :=
 if (regAt regs t).k ≠ 0 then [] else [match kn t with | none => ⟨scr wide sg t j, slotP t, false, 0⟩ | some n => ⟨scr wide sg t j, ⟨0, 0⟩, true, n⟩]
def destP (wide : List Bool) (sg : Int) (regs : List PlaceV) (i : In) : PlaceV := if gvs i.op then takeP wide sg regs i.d 0 else ⟨0, 0⟩
def afterM (wide : List Bool) (sg : Int) (regs : List PlaceV) (i : In) : List Mv :=
 if gvs i.op = true ∧ (regAt regs i.d).k = 0 then [⟨slotP i.d, destP wide sg regs i, false, 0⟩] else []
def rowF (wide : List Bool) (sg : Int) (regs : List PlaceV) (kn : Int → Option Nat) (i : In) : Rw where
 d := destP wide sg regs i
 a := if 0 < many i.op then takeP wide sg regs i.a 0 else ⟨0, 0⟩
 b := if 1 < many i.op then takeP wide sg regs i.b 1 else ⟨0, 0⟩
 before := (if 0 < many i.op then takeM wide sg regs kn i.a 0 else []) ++ (if 1 < many i.op then takeM wide sg regs kn i.b 1 else [])
 after := afterM wide sg regs i
def rowsF (p : Pg) (sg : Int) (regs : List PlaceV) (kn : Nat → Int → Option Nat) : List Rw := (List.range p.code.length).map fun k => rowF p.wide sg regs (kn k) (inAt p.code k)
def placedF (p : Pg) (sg : Int) (regs : List PlaceV) (kn : Nat → Int → Option Nat) : Pd := ⟨p.wide.length, rowsF p sg regs kn⟩

structure ColOk (p : Pg) (sg : Int) (regs : List PlaceV) : Prop where
 len : regs.length = p.wide.length
 reg : ∀ t : Nat, t < p.wide.length → (regAt regs t).k ≠ 0 → IsReg p sg 0 t (regAt regs t)
 zero : ∀ t : Nat, t < p.wide.length → (regAt regs t).k = 0 → regAt regs t = ⟨0, 0⟩
 apart : ∀ a b : Nat, a < p.wide.length → b < p.wide.length → nearB p.code a b = true → (regAt regs a).k ≠ 0 → (regAt regs b).k ≠ 0 → ovP (regAt regs a) (regAt regs b) = false

section
variable {p : Pg} {sg : Int} {regs : List PlaceV}

theorem isB_more {sg sl sg' sl' : Int} {a : PlaceV} (h : isB sg sl a = true) (h1 : sg ≤ sg') (h2 : sl ≤ sl') : isB sg' sl' a = true := by
 unfold isB at *
 have h := of_decide_eq_true h
 apply decide_eq_true
 split at h
 · rw [if_pos ‹_›]; omega
 · rw [if_neg ‹_›]
   split at h
   · rw [if_pos ‹_›]; omega
   · rw [if_neg ‹_›]
     split at h
     · rw [if_pos ‹_›]; omega
     · omega
theorem scr_reg (h4 : 4 ≤ sg) (sl t j : Int) (hj : j = 0 ∨ j = 1) : IsReg p sg sl t (scr p.wide sg t j) := by
 unfold IsReg scr isB
 cases wd p.wide t with
 | true => simp; omega
 | false => simp; omega
theorem slot_isB {sl t : Int} (h : 0 ≤ t ∧ t < sl) : isB sg sl (slotP t) = true := by
 unfold isB slotP; simp; exact h

theorem home_scr (h2 : sg % 2 = 0) (hc : ColOk p (sg - 4) regs) {t : Nat} (ht : t < p.wide.length) (u j : Int) (hj : j = 0 ∨ j = 1) : ovP (home regs t) (scr p.wide sg u j) = false := by
 unfold home
 by_cases h0 : (regAt regs t).k ≠ 0
 · rw [if_pos h0]
   obtain ⟨hk, hb⟩ := hc.reg t ht h0
   generalize regAt regs t = a at *
   obtain ⟨k, n⟩ := a
   simp only at hk
   subst hk
   unfold isB at hb
   have hb := of_decide_eq_true hb
   unfold ovP scr
   cases h : wd p.wide (t : Int) <;> cases h' : wd p.wide u <;> simp [h] at hb ⊢ <;> omega
 · rw [if_neg h0]
   unfold ovP scr slotP
   cases h' : wd p.wide u <;> simp
theorem scr_scr (h2 : sg % 2 = 0) (t u : Int) : ovP (scr p.wide sg t 0) (scr p.wide sg u 1) = false := by
 unfold ovP scr
 cases wd p.wide t <;> cases wd p.wide u <;> simp <;> omega

theorem move_keep {s : FS} {m : Mv} {f : Fc} (h : s f) (ho : ovP f.pl m.to = false) (ht : f.t ≠ -1) : moveF p s m f := Or.inl ⟨h, Or.inr ho, Or.inr ht⟩
theorem move_has {s : FS} {m : Mv} {t : Int} (hc : m.c = false) (h : s (hasF m.fr t)) (hm : mayT p.wide m.to.k t = true) : moveF p s m (hasF m.to t) :=
 Or.inr (Or.inr (Or.inr ⟨hc, _, h, rfl, Or.inl ⟨rfl, hm, rfl⟩⟩))
theorem mayT_scr (t j : Int) : mayT p.wide (scr p.wide sg t j).k t = true := by
 unfold mayT scr
 cases wd p.wide t <;> simp
theorem mayT_slot (t : Int) : mayT p.wide (slotP t).k t = true := by unfold mayT slotP; simp

def Ys (p : Pg) (regs : List PlaceV) (k : Nat) : FS := fun f => ∃ t : Nat, t < p.wide.length ∧ needB p.code k t = true ∧ f = hasF (home regs t) t

theorem inAt_rows {l : Pd} {kn : Nat → Int → Option Nat} (hl : l = placedF p sg regs kn) {k : Nat} (hk : k < p.code.length) : rwAt l.rows k = rowF p.wide sg regs (kn k) (inAt p.code k) := by
 subst hl
 unfold placedF rowsF
 rw [rwAt_get (by simpa using hk)]
 simp

def noKn : Nat → Int → Option Nat := fun _ _ => none

theorem before_ok (h2 : sg % 2 = 0) (hc : ColOk p (sg - 4) regs) {i : In} (hi : InsOk p i) {s : FS} (ha : 0 < many i.op → s (hasF (home regs i.a) i.a)) (hb : 1 < many i.op → s (hasF (home regs i.b) i.b)) :
   (∀ t : Nat, t < p.wide.length → s (hasF (home regs t) t) → movesF p s (rowF p.wide sg regs (noKn 0) i).before (hasF (home regs t) t)) ∧ tookF p s i (rowF p.wide sg regs (noKn 0) i) := by
 have keep1 : ∀ (s : FS) (u j : Int) (hj : j = 0 ∨ j = 1) (t : Nat), t < p.wide.length → s (hasF (home regs t) t) → movesF p s (takeM p.wide sg regs (noKn 0) u j) (hasF (home regs t) t) := by
   intro s u j hj t ht hs
   unfold takeM
   split
   · exact hs
   · exact move_keep hs (home_scr h2 hc ht u j hj) (by show (t : Int) ≠ -1; omega)
 have app : ∀ (s : FS) (l l' : List Mv), movesF p s (l ++ l') = movesF p (movesF p s l) l' := fun s l l' => List.foldl_append
 have toA : ∀ x, tempIn p x → ∃ t : Nat, t < p.wide.length ∧ x = (t : Int) := fun x hx => ⟨x.toNat, by have := hx.1; have := hx.2; omega, by have := hx.1; omega⟩
 have take1 : ∀ (s : FS) (u j : Int), s (hasF (home regs u) u) → movesF p s (takeM p.wide sg regs (noKn 0) u j) (hasF (takeP p.wide sg regs u j) u) := by
   intro s u j hs
   unfold takeM takeP home at *
   by_cases h0 : (regAt regs u).k ≠ 0
   · rw [if_pos h0] at hs
     rw [if_pos h0, if_pos h0]
     exact hs
   · rw [if_neg h0] at hs
     rw [if_neg h0, if_neg h0]
     exact move_has (m := ⟨scr p.wide sg u j, slotP u, false, 0⟩) rfl hs (mayT_scr u j)
 refine ⟨fun t ht hs => ?_, fun hm => ?_, fun hm => ?_⟩
 · unfold rowF
   simp only
   rw [app]
   have h1 : movesF p s (if 0 < many i.op then takeM p.wide sg regs (noKn 0) i.a 0 else []) (hasF (home regs t) t) := by
     by_cases h : 0 < many i.op
     · rw [if_pos h]; exact keep1 s _ 0 (Or.inl rfl) t ht hs
     · rw [if_neg h]; exact hs
   generalize movesF p s (if 0 < many i.op then takeM p.wide sg regs (noKn 0) i.a 0 else []) = s1 at *
   by_cases h : 1 < many i.op
   · rw [if_pos h]; exact keep1 _ _ 1 (Or.inr rfl) t ht h1
   · rw [if_neg h]; exact h1
 · unfold rowF
   simp only
   rw [if_pos hm, if_pos hm, app]
   have h1 := take1 s i.a 0 (ha hm)
   generalize movesF p s (takeM p.wide sg regs (noKn 0) i.a 0) = s1 at *
   by_cases h : 1 < many i.op
   · rw [if_pos h]
     unfold takeM
     by_cases h0 : (regAt regs i.b).k ≠ 0
     · rw [if_pos h0]; exact h1
     · rw [if_neg h0]
       refine move_keep (m := ⟨scr p.wide sg i.b 1, slotP i.b, false, 0⟩) h1 ?_ ?_
       · show ovP (takeP p.wide sg regs i.a 0) (scr p.wide sg i.b 1) = false
         unfold takeP
         by_cases h0 : (regAt regs i.a).k ≠ 0
         · rw [if_pos h0]
           obtain ⟨t, ht, e⟩ := toA _ (hi.a hm)
           have := home_scr h2 hc ht i.b 1 (Or.inr rfl)
           unfold home at this
           rw [e] at h0 ⊢
           rwa [if_pos h0] at this
         · rw [if_neg h0]; exact scr_scr h2 _ _
       · show i.a ≠ -1
         have := (hi.a hm).1; omega
   · rw [if_neg h]; exact h1
 · unfold rowF
   simp only
   rw [if_pos hm, if_pos (by omega), if_pos hm, app]
   apply take1
   obtain ⟨t, ht, e⟩ := toA _ (hi.b hm)
   have := hb hm
   rw [e] at this ⊢
   exact keep1 s _ 0 (Or.inl rfl) t ht this

theorem needB_of_takes {code : List In} {k : Nat} {t : Nat} (h : takesB (inAt code k) t = true) : needB code k t = true := by
 rw [needB_step]; unfold stepM; rw [h]; rfl
theorem needB_of_behind {code : List In} {k m t : Nat} (hm : m ∈ nx code k) (h : needB code m t = true) (hg : givesB (inAt code k) t = false) : needB code k t = true := by
 rw [needB_step]; unfold stepM behindM
 rw [hg]
 simp only [Bool.not_false, Bool.true_and, Bool.or_eq_true, List.any_eq_true]
 exact Or.inr ⟨m, hm, h⟩
theorem takes_a {i : In} {t : Nat} (h : 0 < many i.op) (e : i.a = (t : Int)) : takesB i t = true := by
 unfold takesB uses
 rw [List.contains_iff_mem, e]
 have : many i.op = 1 ∨ many i.op = 2 := by unfold many at *; split at h <;> (try split at h) <;> simp_all
 rcases this with h | h <;> rw [h] <;> simp
theorem takes_b {i : In} {t : Nat} (h : 1 < many i.op) (e : i.b = (t : Int)) : takesB i t = true := by
 unfold takesB uses
 rw [List.contains_iff_mem, e]
 have : many i.op = 2 := by unfold many at *; split at h <;> (try split at h) <;> simp_all
 rw [this]; simp

theorem home_isB (hc : ColOk p (sg - 4) regs) {t : Nat} (ht : t < p.wide.length) : isB sg (p.wide.length : Int) (home regs t) = true ∧ mayT p.wide (home regs t).k t = true := by
 unfold home
 by_cases h0 : (regAt regs t).k ≠ 0
 · rw [if_pos h0]
   obtain ⟨hk, hb⟩ := hc.reg t ht h0
   refine ⟨isB_more hb (by omega) (by omega), ?_⟩
   unfold mayT
   rw [hk]
   cases wd p.wide (t : Int) <;> simp
 · rw [if_neg h0]
   exact ⟨slot_isB (by omega), mayT_slot _⟩
theorem ovP_reg_eq {a b : PlaceV} (h : ovP a b = true) (hk : a.k = b.k) : a = b := by
 unfold ovP at h
 split at h
 · omega
 · split at h
   · omega
   · have := of_decide_eq_true h
     obtain ⟨ak, an⟩ := a
     obtain ⟨bk, bn⟩ := b
     simp only at this
     rw [this.1, this.2]
theorem home_slot {t : Nat} {d : Int} (hne : (t : Int) ≠ d) (hr : (regAt regs t).k ≠ 3) : ovP (home regs t) (slotP d) = false := by
 unfold home
 by_cases h0 : (regAt regs t).k ≠ 0
 · rw [if_pos h0]
   unfold ovP slotP
   simp [hr]
 · rw [if_neg h0]
   unfold ovP slotP
   simp [hne]

theorem ys_sol (hm : mayB p = true) (h4 : 4 ≤ sg) (h2 : sg % 2 = 0) (hc : ColOk p (sg - 4) regs) {l : Pd} (hl : l = placedF p sg regs noKn) :
   IsSol p sg l (Ys p regs) ∧ ∀ k, Come p.code k → tookF p (Ys p regs k) (inAt p.code k) (rwAt l.rows k) := by
 have hlen := mayB_len hm
 have toA : ∀ x, tempIn p x → ∃ t : Nat, t < p.wide.length ∧ x = (t : Int) := fun x hx => ⟨x.toNat, by have := hx.1; have := hx.2; omega, by have := hx.1; omega⟩
 have hreg3 : ∀ t : Nat, t < p.wide.length → (regAt regs t).k ≠ 3 := by
   intro t ht h3
   obtain ⟨hk, _⟩ := hc.reg t ht (by omega)
   rw [hk] at h3
   split at h3 <;> omega
 have hmid : ∀ k, Come p.code k → (∀ t : Nat, t < p.wide.length → Ys p regs k (hasF (home regs t) t) → movesF p (Ys p regs k) (rowF p.wide sg regs (noKn 0) (inAt p.code k)).before (hasF (home regs t) t)) ∧
     tookF p (Ys p regs k) (inAt p.code k) (rowF p.wide sg regs (noKn 0) (inAt p.code k)) := by
   intro k hk
   have hkl := hk.lt (by omega)
   have hi := insOk (mayB_ins hm (inAt_mem hkl))
   refine before_ok h2 hc hi (fun hg => ?_) (fun hg => ?_)
   · obtain ⟨t, ht, e⟩ := toA _ (hi.a hg)
     exact ⟨t, ht, needB_of_takes (takes_a hg e), by rw [e]⟩
   · obtain ⟨t, ht, e⟩ := toA _ (hi.b hg)
     exact ⟨t, ht, needB_of_takes (takes_b hg e), by rw [e]⟩
 refine ⟨⟨?_, ?_⟩, ?_⟩
 · rintro f ⟨t, ht, _, rfl⟩
   obtain ⟨b1, b2⟩ := home_isB (sg := sg) hc ht
   refine ⟨Or.inr (Or.inl ⟨?_, rfl, rfl, ⟨by show (0 : Int) ≤ t; omega, by show (t : Int) < _; omega⟩, b2⟩), rfl⟩
   subst hl
   exact b1
 · rintro k hk m hmk f ⟨t, ht, hnd, rfl⟩
   have hkl := hk.lt (by omega)
   have hi := insOk (mayB_ins hm (inAt_mem hkl))
   obtain ⟨q1, _⟩ := hmid k hk
   rw [inAt_rows hl hkl]
   generalize hI : inAt p.code k = i at *
   unfold thruF
   by_cases hg : gvs i.op = true
   · obtain ⟨d, hd, ed⟩ := toA _ (hi.d hg)
     by_cases htd : t = d
     · -- it is what is given
       subst htd
       have h1 : insF (movesF p (Ys p regs k) (rowF p.wide sg regs (noKn k) i).before) i (rowF p.wide sg regs (noKn k) i).d (hasF (destP p.wide sg regs i) t) := by
         unfold insF
         rw [if_pos hg, ← ed]
         exact Or.inr (Or.inr (Or.inr rfl))
       show movesF p _ (afterM p.wide sg regs i) (hasF (home regs t) t)
       unfold afterM
       by_cases h0 : (regAt regs i.d).k = 0
       · rw [if_pos ⟨hg, h0⟩]
         have e : home regs (t : Int) = slotP i.d := by unfold home; rw [← ed, if_neg (by simpa using h0)]
         rw [e]
         exact move_has (m := ⟨slotP i.d, destP p.wide sg regs i, false, 0⟩) rfl h1 (by rw [ed]; exact mayT_slot _)
       · rw [if_neg (fun h => h0 h.2)]
         have e : home regs (t : Int) = destP p.wide sg regs i := by unfold home destP takeP; rw [if_pos hg, ← ed, if_pos h0, if_pos h0]
         rw [e]
         exact h1
     · have hng : givesB i t = false := by
         unfold givesB
         rw [ed]
         simp
         intro _; omega
       have hnk : needB p.code k t = true := needB_of_behind hmk hnd (by rw [hI]; exact hng)
       have hs := q1 t ht ⟨t, ht, hnk, rfl⟩
       have hbeh : behindM p.code (needB p.code) k t = true := by
         unfold behindM
         rw [List.any_eq_true]
         exact ⟨m, hmk, hnd⟩
       have h1 : insF (movesF p (Ys p regs k) (rowF p.wide sg regs (noKn k) i).before) i (rowF p.wide sg regs (noKn k) i).d (hasF (home regs t) t) := by
         unfold insF
         rw [if_pos hg]
         show giveF _ i (destP p.wide sg regs i) _
         by_cases hov : ovP (home regs t) (destP p.wide sg regs i) = false
         · exact Or.inl ⟨hs, Or.inr hov, Or.inr (by show (t : Int) ≠ i.d; omega)⟩
         · have hov : ovP (home regs t) (destP p.wide sg regs i) = true := by simpa using hov
           unfold destP takeP at hov
           rw [if_pos hg] at hov
           by_cases h0 : (regAt regs i.d).k ≠ 0
           · rw [if_pos h0] at hov
             by_cases hrt : (regAt regs t).k ≠ 0
             · have eh : home regs (t : Int) = regAt regs t := by unfold home; rw [if_pos hrt]
               rw [eh] at hov ⊢
               by_cases hmv : i.op = 2 ∧ i.a = (t : Int)
               · -- a move of this one
                 have hk2 : (regAt regs t).k = (regAt regs i.d).k := by
                   have r1 := (hc.reg t ht hrt).1
                   have r2 := (hc.reg d hd (by rw [← ed]; exact h0)).1
                   rw [← ed] at r2
                   rw [r1, r2, hi.w2 hmv.1, hmv.2]
                 have e := ovP_reg_eq hov hk2
                 refine Or.inr (Or.inr (Or.inl ⟨hmv.1, Or.inr ?_⟩))
                 rw [e, hmv.2]
                 unfold destP takeP
                 rw [if_pos hg, if_pos h0]
               · exfalso
                 have hnear : nearB p.code t d = true := by
                   unfold nearB
                   simp only [Bool.and_eq_true, decide_eq_true_eq, Bool.or_eq_true, List.any_eq_true, List.mem_range]
                   refine ⟨htd, Or.inr ⟨k, hkl, Or.inr ?_⟩⟩
                   unfold nearAt
                   rw [hI, hbeh]
                   have hgd : givesB i d = true := by unfold givesB; rw [hg, ed]; simp
                   rw [hgd]
                   have hx : (decide (i.op = 2) && decide (i.a = (t : Int))) = false := by
                     rw [Bool.eq_false_iff]
                     intro h
                     simp at h
                     exact hmv h
                   rw [hx]; rfl
                 have := hc.apart t d ht hd hnear hrt (by rw [← ed]; exact h0)
                 rw [← ed] at this
                 rw [this] at hov
                 cases hov
             · exfalso
               have eh : home regs (t : Int) = slotP t := by unfold home; rw [if_neg hrt]
               rw [eh] at hov
               have r3 := hreg3 d hd
               rw [← ed] at r3
               unfold ovP slotP at hov
               simp at hov
               exact r3 hov.1.symm
           · rw [if_neg h0, home_scr h2 hc ht i.d 0 (Or.inl rfl)] at hov
             cases hov
       show movesF p _ (afterM p.wide sg regs i) (hasF (home regs t) t)
       unfold afterM
       split
       · exact move_keep h1 (home_slot (by omega) (hreg3 t ht)) (by show (t : Int) ≠ -1; omega)
       · exact h1
   · have hng : givesB i t = false := by unfold givesB; simp [hg]
     have hnk : needB p.code k t = true := needB_of_behind hmk hnd (by rw [hI]; exact hng)
     have hs := q1 t ht ⟨t, ht, hnk, rfl⟩
     show movesF p _ (afterM p.wide sg regs i) (hasF (home regs t) t)
     unfold afterM insF
     rw [if_neg hg, if_neg (fun h => hg h.1)]
     exact hs
 · intro k hk
   have hkl := hk.lt (by omega)
   rw [inAt_rows hl hkl]
   exact (hmid k hk).2

theorem build_taken (hm : mayB p = true) (h4 : 4 ≤ sg) (h2 : sg % 2 = 0) (hc : ColOk p (sg - 4) regs) : Taken p sg (placedF p sg regs noKn) := by
 obtain ⟨h1, h3⟩ := ys_sol hm h4 h2 hc rfl
 exact taken_of_sol h1 h3

theorem takeP_reg (h4 : 4 ≤ sg) (hc : ColOk p (sg - 4) regs) {x : Int} (hx : tempIn p x) (j : Int) (hj : j = 0 ∨ j = 1) (sl : Int) (hs : 0 ≤ sl) : IsReg p sg sl x (takeP p.wide sg regs x j) := by
 unfold takeP
 by_cases h0 : (regAt regs x).k ≠ 0
 · rw [if_pos h0]
   obtain ⟨t, ht, rfl⟩ : ∃ t : Nat, t < p.wide.length ∧ x = (t : Int) := ⟨x.toNat, by have := hx.1; have := hx.2; omega, by have := hx.1; omega⟩
   obtain ⟨hk, hb⟩ := hc.reg t ht h0
   exact ⟨hk, isB_more hb (by omega) hs⟩
 · rw [if_neg h0]
   exact scr_reg h4 sl x j hj
theorem plB_reg {wide : List Bool} {sg sl : Int} {l : UInt8} {t : Int} {a : PlaceV} (hl : decide (l = 45) = false) (hr : a.k = (if wd wide t then 2 else 1) ∧ isB sg sl a = true) : plB wide sg sl l t a = true := by
 have hl := of_decide_eq_false hl
 unfold plB kindV
 rw [if_neg hl, hr.2]
 obtain ⟨h1, _⟩ := hr
 cases hw : wd wide t <;> rw [hw] at h1 <;> simp at h1 <;> simp [h1]
theorem plB_none {wide : List Bool} {sg sl : Int} {l : UInt8} {t : Int} (hl : decide (l = 45) = true) : plB wide sg sl l t ⟨0, 0⟩ = true := by
 have hl := of_decide_eq_true hl
 unfold plB kindV
 rw [if_pos hl]; simp
theorem mv_scr (h4 : 4 ≤ sg) {sl x j : Int} (hx : 0 ≤ x ∧ x < sl) (hj : j = 0 ∨ j = 1) : mvB sg sl ⟨scr p.wide sg x j, slotP x, false, 0⟩ = true := by
 have h1 := scr_reg (p := p) h4 sl x j hj
 have h3 : (scr p.wide sg x j).k ≠ 3 := by rw [h1.1]; split <;> omega
 unfold mvB
 simp only [h1.2, slot_isB hx]
 simp [slotP, h3]
theorem takeM_ok (h4 : 4 ≤ sg) {sl x j : Int} (hx : 0 ≤ x ∧ x < sl) (hj : j = 0 ∨ j = 1) : (takeM p.wide sg regs (noKn 0) x j).all (mvB sg sl) = true ∧ (takeM p.wide sg regs (noKn 0) x j).length ≤ 1 := by
 unfold takeM
 by_cases h0 : (regAt regs x).k ≠ 0
 · rw [if_pos h0]; simp
 · rw [if_neg h0]
   have := mv_scr (p := p) h4 hx hj
   simp [noKn, this]
theorem row_may (h4 : 4 ≤ sg) (hc : ColOk p (sg - 4) regs) {i : In} (hi : InsOk p i) : rwB p sg p.wide.length i (rowF p.wide sg regs (noKn 0) i) = true := by
 obtain ⟨s0, s1, s2⟩ := shape_there hi.kn
 have hsl : (0 : Int) ≤ p.wide.length := by omega
 unfold rwB
 simp only [Bool.and_eq_true]
 refine ⟨⟨⟨?_, ?_⟩, ?_⟩, ⟨?_, ?_⟩, ?_⟩
 · show plB _ _ _ _ _ (destP p.wide sg regs i) = true
   unfold destP
   by_cases hg : gvs i.op = true
   · rw [if_pos hg]
     exact plB_reg (by rw [s0, hg]; rfl) (takeP_reg h4 hc (hi.d hg) 0 (Or.inl rfl) _ hsl)
   · rw [if_neg hg]
     exact plB_none (by rw [s0]; simpa using hg)
 · show plB _ _ _ _ _ (if 0 < many i.op then takeP p.wide sg regs i.a 0 else ⟨0, 0⟩) = true
   by_cases hg : 0 < many i.op
   · rw [if_pos hg]
     exact plB_reg (by rw [s1, decide_eq_true hg]; rfl) (takeP_reg h4 hc (hi.a hg) 0 (Or.inl rfl) _ hsl)
   · rw [if_neg hg]
     exact plB_none (by rw [s1, decide_eq_false hg]; rfl)
 · show plB _ _ _ _ _ (if 1 < many i.op then takeP p.wide sg regs i.b 1 else ⟨0, 0⟩) = true
   by_cases hg : 1 < many i.op
   · rw [if_pos hg]
     exact plB_reg (by rw [s2, decide_eq_true hg]; rfl) (takeP_reg h4 hc (hi.b hg) 1 (Or.inr rfl) _ hsl)
   · rw [if_neg hg]
     exact plB_none (by rw [s2, decide_eq_false hg]; rfl)
 · unfold rowF mvsB
   simp only [List.all_append, List.length_append, Bool.and_eq_true, decide_eq_true_eq]
   have ha : (if 0 < many i.op then takeM p.wide sg regs (noKn 0) i.a 0 else []).all (mvB sg p.wide.length) = true ∧ (if 0 < many i.op then takeM p.wide sg regs (noKn 0) i.a 0 else []).length ≤ 1 := by
     by_cases hg : 0 < many i.op
     · rw [if_pos hg]; exact takeM_ok h4 (hi.a hg) (Or.inl rfl)
     · rw [if_neg hg]; simp
   have hb : (if 1 < many i.op then takeM p.wide sg regs (noKn 0) i.b 1 else []).all (mvB sg p.wide.length) = true ∧ (if 1 < many i.op then takeM p.wide sg regs (noKn 0) i.b 1 else []).length ≤ 1 := by
     by_cases hg : 1 < many i.op
     · rw [if_pos hg]; exact takeM_ok h4 (hi.b hg) (Or.inr rfl)
     · rw [if_neg hg]; simp
   exact ⟨⟨ha.1, hb.1⟩, by omega⟩
 · show mvsB sg _ (afterM p.wide sg regs i) = true
   unfold afterM mvsB
   by_cases hg : gvs i.op = true ∧ (regAt regs i.d).k = 0
   · rw [if_pos hg]
     have h1 := takeP_reg h4 hc (hi.d hg.1) 0 (Or.inl rfl) (p.wide.length : Int) hsl
     have e : destP p.wide sg regs i = takeP p.wide sg regs i.d 0 := by unfold destP; rw [if_pos hg.1]
     have h3 : (takeP p.wide sg regs i.d 0).k ≠ 3 := by rw [h1.1]; split <;> omega
     have hs := slot_isB (sg := sg) (hi.d hg.1)
     rw [e]
     simp only [List.all_cons, List.all_nil, Bool.and_true, List.length_singleton]
     unfold mvB
     simp only [h1.2, hs]
     simp [slotP, h3]
     exact decide_eq_false (fun h => h3 h.symm)
   · rw [if_neg hg]; simp
 · show (!decide (8 ≤ i.op ∧ i.op ≤ 10) || decide ((afterM p.wide sg regs i).length = 0)) = true
   by_cases hj : 8 ≤ i.op ∧ i.op ≤ 10
   · have hg : ¬ gvs i.op = true := by unfold gvs; simp; omega
     unfold afterM
     rw [if_neg (fun h => hg h.1)]; simp
   · rw [decide_eq_false hj]; rfl

theorem build_may (hm : mayB p = true) (ht : tgB sg = true) (hc : ColOk p (sg - 4) regs) : mayL p sg (placedF p sg regs noKn) = true := by
 obtain ⟨l1, l2, l3, l4⟩ := mayB_len hm
 obtain ⟨t1, t2, t3⟩ := tg_facts ht
 unfold mayL
 simp only [Bool.and_eq_true]
 refine ⟨⟨⟨⟨⟨hm, ht⟩, ?_⟩, ?_⟩, ?_⟩, ?_⟩
 · unfold placedF; simp
 · unfold placedF; simp; omega
 · unfold placedF rowsF; simp
 · rw [List.all_eq_true]
   intro x hx
   obtain ⟨k, hk, rfl⟩ := List.mem_iff_getElem.1 hx
   have hk1 : k < p.code.length := by simp at hk; omega
   have e : (placedF p sg regs noKn).rows = rowsF p sg regs noKn := rfl
   simp only [List.getElem_zip]
   have h2 : (placedF p sg regs noKn).rows[k]'(by rw [e]; unfold rowsF; simpa using hk1) = rowF p.wide sg regs (noKn 0) p.code[k] := by
     simp only [e, rowsF, List.getElem_map, List.getElem_range, inAt_get hk1]
     rfl
   rw [h2]
   exact row_may t1 hc (insOk (mayB_ins hm (List.getElem_mem hk1)))
end

end Go.Proofs.Ytodmkjeankbieab


namespace Go.Proofs.Ytodmkjeankbieab

structure ColAt (p : Pg) (sg : Int) (o : Nat → PlaceV) : Prop where
 reg : ∀ t, t < p.wide.length → o t = ⟨0, 0⟩ ∨ IsReg p sg 0 t (o t)
 apart : ∀ a b, a < p.wide.length → b < p.wide.length → nearB p.code a b = true → (o a).k ≠ 0 → (o b).k ≠ 0 → ovP (o a) (o b) = false
def updP (o : Nat → PlaceV) (t : Nat) (a : PlaceV) : Nat → PlaceV := fun x => if x = t then a else o x
theorem ColAt.zero (p : Pg) (sg : Int) : ColAt p sg (fun _ => ⟨0, 0⟩) := ⟨fun _ _ => Or.inl rfl, fun _ _ _ _ _ h => absurd rfl h⟩
noncomputable def freeTo (p : Pg) (o : Nat → PlaceV) (t : Nat) (a : PlaceV) (u : Nat) : Bool := (List.range u).all fun x => !nearB p.code t x || decide ((o x).k = 0) || !ovP a (o x)
theorem freeTo_s {p : Pg} {o : Nat → PlaceV} {t u : Nat} {a : PlaceV} : freeTo p o t a (u + 1) = (freeTo p o t a u && (!nearB p.code t u || decide ((o u).k = 0) || !ovP a (o u))) := by
 unfold freeTo
 rw [List.range_succ, List.all_append]
 simp
theorem ColAt.put {p : Pg} {sg : Int} {o : Nat → PlaceV} {t : Nat} {a : PlaceV} (h : ColAt p sg o) (hr : IsReg p sg 0 t a) (hf : freeTo p o t a p.wide.length = true) : ColAt p sg (updP o t a) := by
 have hfr : ∀ x, x < p.wide.length → nearB p.code t x = true → (o x).k ≠ 0 → ovP a (o x) = false := by
   intro x hx hn hk
   unfold freeTo at hf
   have := List.all_eq_true.1 hf x (List.mem_range.2 hx)
   rw [hn] at this
   simpa [hk] using this
 refine ⟨fun x hx => ?_, fun x y hx hy hn h1 h2 => ?_⟩
 · unfold updP
   split
   · rename_i e; subst e; exact Or.inr hr
   · exact h.reg x hx
 · unfold updP at h1 h2 ⊢
   by_cases ex : x = t
   · by_cases ey : y = t
     · subst ex; subst ey; rw [nearB_self] at hn; cases hn
     · rw [if_pos ex, if_neg ey]
       rw [if_neg ey] at h2
       subst ex
       exact hfr y hy hn h2
   · by_cases ey : y = t
     · rw [if_neg ex, if_pos ey, ovP_comm]
       rw [if_neg ex] at h1
       subst ey
       exact hfr x hx (by rw [nearB_comm]; exact hn) h1
     · rw [if_neg ex, if_neg ey]
       rw [if_neg ex] at h1
       rw [if_neg ey] at h2
       exact h.apart x y hx hy hn h1 h2
theorem ColAt.ok {p : Pg} {sg : Int} {o : Nat → PlaceV} (h : ColAt p sg o) : ColOk p sg ((List.range p.wide.length).map o) := by
 have e : ∀ t : Nat, t < p.wide.length → regAt ((List.range p.wide.length).map o) t = o t := by
   intro t ht
   unfold regAt
   rw [List.getD_eq_getElem?_getD, List.getElem?_map, Int.toNat_natCast, List.getElem?_range ht]
   rfl
 refine ⟨by simp, fun t ht hk => ?_, fun t ht hk => ?_, fun a b ha hb hn h1 h2 => ?_⟩
 · rw [e t ht] at hk ⊢
   rcases h.reg t ht with h0 | h0
   · rw [h0] at hk; exact absurd rfl hk
   · exact h0
 · rw [e t ht] at hk ⊢
   rcases h.reg t ht with h0 | h0
   · exact h0
   · have := h0.1
     rw [hk] at this
     split at this <;> omega
 · rw [e a ha] at h1 ⊢
   rw [e b hb] at h2 ⊢
   exact h.apart a b ha hb hn h1 h2
end Go.Proofs.Ytodmkjeankbieab


namespace Go.Proofs.Ytodmkjeankbieab

section
variable {code : List In} {M : Nat → Nat → Bool}
def putN (f : Nat → Nat → Bool) (a b : Nat) : Nat → Nat → Bool :=
 if a = b then f else fun x y => if x = b ∧ y = a then true else if x = a ∧ y = b then true else f x y
theorem putN_iff (f : Nat → Nat → Bool) (a b x y : Nat) : putN f a b x y = true ↔ f x y = true ∨ (a ≠ b ∧ ((x = a ∧ y = b) ∨ (x = b ∧ y = a))) := by
 unfold putN
 by_cases h : a = b
 · simp [h]
 · rw [if_neg h]
   by_cases h1 : x = b ∧ y = a
   · simp [h1, h]
   · by_cases h2 : x = a ∧ y = b
     · simp [h2, h]
     · rw [if_neg h1, if_neg h2]
       constructor
       · exact Or.inl
       · rintro (h3 | ⟨_, h3 | h3⟩)
         · exact h3
         · exact absurd h3 h2
         · exact absurd h3 h1

def NearK (code : List In) (M : Nat → Nat → Bool) (W K : Nat) (f : Nat → Nat → Bool) : Prop :=
 ∀ x y, x < W → y < W → (f x y = true ↔ x ≠ y ∧ ∃ k, k < K ∧ (nearAt code M k x y = true ∨ nearAt code M k y x = true))
def NearT (code : List In) (M : Nat → Nat → Bool) (W K T : Nat) (f : Nat → Nat → Bool) : Prop :=
 ∀ x y, x < W → y < W → (f x y = true ↔ x ≠ y ∧ ((∃ k, k < K ∧ (nearAt code M k x y = true ∨ nearAt code M k y x = true)) ∨ (y < T ∧ nearAt code M K x y = true) ∨ (x < T ∧ nearAt code M K y x = true)))
theorem NearK.zero {W : Nat} : NearK code M W 0 (fun _ _ => false) := by
 intro x y _ _
 simp
theorem NearK.none {W K : Nat} {f : Nat → Nat → Bool} (h : NearK code M W K f) (hg : gvs (inAt code K).op = false) : NearK code M W (K + 1) f := by
 intro x y hx hy
 rw [h x y hx hy]
 have e : ∀ a b, nearAt code M K a b = false := by intro a b; unfold nearAt givesB; rw [hg]; rfl
 constructor
 · rintro ⟨h1, k, hk, h2⟩
   exact ⟨h1, k, by omega, h2⟩
 · rintro ⟨h1, k, hk, h2⟩
   refine ⟨h1, k, ?_, h2⟩
   by_cases hkk : k = K
   · subst hkk; rw [e, e] at h2; simp at h2
   · omega
theorem NearK.toT {W K : Nat} {f : Nat → Nat → Bool} (h : NearK code M W K f) : NearT code M W K 0 f := by
 intro x y hx hy
 rw [h x y hx hy]
 simp
theorem NearT.toK {W K : Nat} {f : Nat → Nat → Bool} (h : NearT code M W K W f) : NearK code M W (K + 1) f := by
 intro x y hx hy
 rw [h x y hx hy]
 constructor
 · rintro ⟨h1, ⟨k, hk, h2⟩ | ⟨_, h2⟩ | ⟨_, h2⟩⟩
   · exact ⟨h1, k, by omega, h2⟩
   · exact ⟨h1, K, by omega, Or.inl h2⟩
   · exact ⟨h1, K, by omega, Or.inr h2⟩
 · rintro ⟨h1, k, hk, h2⟩
   refine ⟨h1, ?_⟩
   by_cases hkk : k = K
   · subst hkk
     rcases h2 with h2 | h2
     · exact Or.inr (Or.inl ⟨hy, h2⟩)
     · exact Or.inr (Or.inr ⟨hx, h2⟩)
   · exact Or.inl ⟨k, by omega, h2⟩
theorem nearAt_iff {K a b : Nat} : nearAt code M K a b = true ↔ gvs (inAt code K).op = true ∧ (inAt code K).d = (a : Int) ∧ ¬ ((inAt code K).op = 2 ∧ (inAt code K).a = (b : Int)) ∧ behindM code M K b = true := by
 unfold nearAt givesB
 simp [and_assoc]
 intro _ _ _
 exact Decidable.imp_iff_not_or.symm
theorem NearT.no {W K T : Nat} {f : Nat → Nat → Bool} (h : NearT code M W K T f) (hn : ¬ (behindM code M K T = true ∧ ¬ ((inAt code K).op = 2 ∧ (inAt code K).a = (T : Int)))) : NearT code M W K (T + 1) f := by
 have e : ∀ a, ¬ nearAt code M K a T = true := fun a h => hn ⟨(nearAt_iff.1 h).2.2.2, (nearAt_iff.1 h).2.2.1⟩
 intro x y hx hy
 rw [h x y hx hy]
 refine and_congr_right fun _ => or_congr_right ?_
 constructor
 · rintro (⟨h1, h2⟩ | ⟨h1, h2⟩)
   · exact Or.inl ⟨by omega, h2⟩
   · exact Or.inr ⟨by omega, h2⟩
 · rintro (⟨h1, h2⟩ | ⟨h1, h2⟩)
   · refine Or.inl ⟨?_, h2⟩
     by_cases hy : y = T
     · subst hy; exact absurd h2 (e _)
     · omega
   · refine Or.inr ⟨?_, h2⟩
     by_cases hy : x = T
     · subst hy; exact absurd h2 (e _)
     · omega
theorem NearT.yes {W K T d : Nat} {f : Nat → Nat → Bool} (h : NearT code M W K T f) (hg : gvs (inAt code K).op = true) (hd : (inAt code K).d = (d : Int)) (hb : behindM code M K T = true) (hm : ¬ ((inAt code K).op = 2 ∧ (inAt code K).a = (T : Int))) :
   NearT code M W K (T + 1) (putN f d T) := by
 have e : nearAt code M K d T = true := nearAt_iff.2 ⟨hg, hd, hm, hb⟩
 have e2 : ∀ a b, nearAt code M K a b = true → a = d := fun a b h => by have := (nearAt_iff.1 h).2.1; omega
 intro x y hx hy
 rw [putN_iff, h x y hx hy]
 constructor
 · rintro (⟨h0, h1 | ⟨h1, h2⟩ | ⟨h1, h2⟩⟩ | ⟨h0, ⟨rfl, rfl⟩ | ⟨rfl, rfl⟩⟩)
   · exact ⟨h0, Or.inl h1⟩
   · exact ⟨h0, Or.inr (Or.inl ⟨by omega, h2⟩)⟩
   · exact ⟨h0, Or.inr (Or.inr ⟨by omega, h2⟩)⟩
   · exact ⟨h0, Or.inr (Or.inl ⟨by omega, e⟩)⟩
   · exact ⟨fun h => h0 h.symm, Or.inr (Or.inr ⟨by omega, e⟩)⟩
 · rintro ⟨h0, h1 | ⟨h1, h2⟩ | ⟨h1, h2⟩⟩
   · exact Or.inl ⟨h0, Or.inl h1⟩
   · have := e2 _ _ h2
     subst this
     by_cases hy : y = T
     · subst hy; exact Or.inr ⟨h0, Or.inl ⟨rfl, rfl⟩⟩
     · exact Or.inl ⟨h0, Or.inr (Or.inl ⟨by omega, h2⟩)⟩
   · have := e2 _ _ h2
     subst this
     by_cases hy : x = T
     · subst hy; exact Or.inr ⟨fun h => h0 h.symm, Or.inr ⟨rfl, rfl⟩⟩
     · exact Or.inl ⟨h0, Or.inr (Or.inr ⟨by omega, h2⟩)⟩

def NearA (code : List In) (M : Nat → Nat → Bool) (W A B : Nat) (f : Nat → Nat → Bool) : Prop :=
 ∀ x y, x < W → y < W → (f x y = true ↔ x ≠ y ∧ ((∃ k, k < code.length ∧ (nearAt code M k x y = true ∨ nearAt code M k y x = true)) ∨
   (M 0 x = true ∧ M 0 y = true ∧ ((x < A ∨ x = A ∧ y < B) ∨ (y < A ∨ y = A ∧ x < B)))))
theorem NearK.toA {W : Nat} {f : Nat → Nat → Bool} (h : NearK code M W code.length f) : NearA code M W 0 0 f := by
 intro x y hx hy
 rw [h x y hx hy]
 simp
theorem NearA.next {W A : Nat} {f : Nat → Nat → Bool} (h : NearA code M W A W f) : NearA code M W (A + 1) 0 f := by
 intro x y hx hy
 rw [h x y hx hy]
 refine and_congr_right fun _ => or_congr_right ?_
 refine and_congr_right fun _ => and_congr_right fun _ => ?_
 omega
theorem NearA.no {W A B : Nat} {f : Nat → Nat → Bool} (h : NearA code M W A B f) (hn : ¬ (M 0 A = true ∧ M 0 B = true)) : NearA code M W A (B + 1) f := by
 intro x y hx hy
 rw [h x y hx hy]
 refine and_congr_right fun _ => or_congr_right ?_
 constructor
 · rintro ⟨h1, h2, h3⟩; exact ⟨h1, h2, by omega⟩
 · rintro ⟨h1, h2, h3⟩
   refine ⟨h1, h2, ?_⟩
   by_cases h4 : x = A ∧ y = B
   · obtain ⟨rfl, rfl⟩ := h4; exact absurd ⟨h1, h2⟩ hn
   · by_cases h5 : y = A ∧ x = B
     · obtain ⟨rfl, rfl⟩ := h5; exact absurd ⟨h2, h1⟩ hn
     · omega
theorem NearA.yes {W A B : Nat} {f : Nat → Nat → Bool} (h : NearA code M W A B f) (ha : M 0 A = true) (hb : M 0 B = true) : NearA code M W A (B + 1) (putN f A B) := by
 intro x y hx hy
 rw [putN_iff, h x y hx hy]
 constructor
 · rintro (⟨h0, h1 | ⟨h1, h2, h3⟩⟩ | ⟨h0, ⟨rfl, rfl⟩ | ⟨rfl, rfl⟩⟩)
   · exact ⟨h0, Or.inl h1⟩
   · exact ⟨h0, Or.inr ⟨h1, h2, by omega⟩⟩
   · exact ⟨h0, Or.inr ⟨ha, hb, by omega⟩⟩
   · exact ⟨fun h => h0 h.symm, Or.inr ⟨hb, ha, by omega⟩⟩
 · rintro ⟨h0, h1 | ⟨h1, h2, h3⟩⟩
   · exact Or.inl ⟨h0, Or.inl h1⟩
   · by_cases h4 : x = A ∧ y = B
     · exact Or.inr ⟨by omega, Or.inl h4⟩
     · by_cases h5 : y = A ∧ x = B
       · exact Or.inr ⟨by omega, Or.inr ⟨h5.2, h5.1⟩⟩
       · exact Or.inl ⟨h0, Or.inr ⟨h1, h2, by omega⟩⟩
theorem NearA.all {W : Nat} {f : Nat → Nat → Bool} (h : NearA code (needB code) W W 0 f) {x y : Nat} (hx : x < W) (hy : y < W) : f x y = nearB code x y := by
 rw [Bool.eq_iff_iff, h x y hx hy]
 unfold nearB
 simp only [Bool.and_eq_true, decide_eq_true_eq, Bool.or_eq_true, List.any_eq_true, List.mem_range]
 refine and_congr_right fun _ => ?_
 constructor
 · rintro (⟨k, h1, h2⟩ | ⟨h1, h2, _⟩)
   · exact Or.inr ⟨k, h1, h2⟩
   · exact Or.inl ⟨h1, h2⟩
 · rintro (⟨h1, h2⟩ | ⟨k, h1, h2⟩)
   · exact Or.inr ⟨h1, h2, Or.inl (Or.inl hx)⟩
   · exact Or.inl ⟨k, h1, h2⟩
end
end Go.Proofs.Ytodmkjeankbieab

