/- Texts of this claim, packed. -/
import Derived.Test.YtodmkjeankbieabKAllk30
import Derived.Test.YtodmkjeankbieabKAllk3
set_option linter.all false
namespace Go.Proofs.Ytodmkjeankbieab
open Go.RowKit Go.Sort Go.Maps

def KnV (w : World) (p : Pg) (sg sl : Nat) (kv : Value) (q : Int → Option Nat) : Prop :=
 (kv = .map none ∧ ∀ t, q t = none) ∨ ∃ bk S, kv = .map (some bk) ∧ FSet w bk 2400 S ∧ InU p sg sl S ∧ Uni S ∧ ∀ t, q t = knS S t
theorem KnV.fr {w w' : World} {p : Pg} {sg sl : Nat} {kv : Value} {q : Int → Option Nat} (h : KnV w p sg sl kv q) (hk : Fr w w') : KnV w' p sg sl kv q := by
 rcases h with h | ⟨bk, S, h1, h2, h3⟩
 · exact Or.inl h
 · exact Or.inr ⟨bk, S, h1, h2.kept hk (fun h => h), h3⟩
theorem KnV.lt {w : World} {p : Pg} {sg sl : Nat} {kv : Value} {q : Int → Option Nat} (h : KnV w p sg sl kv q) (hn : NumOk p) {t : Int} {n : Nat} (hq : q t = some n) : n < 4294967296 := by
 rcases h with ⟨_, h⟩ | ⟨bk, S, _, _, h3, _, h5⟩
 · rw [h] at hq; cases hq
 · rw [h5] at hq
   unfold knS at hq
   split at hq
   · rename_i hx
     cases hq
     exact numIn_lt hn (factIn_k0 (h3 _ (Classical.choose_spec hx)) rfl).2.2.2.2
   · cases hq
theorem KnV.past {w w' : World} {p : Pg} {sg sl : Nat} {kv : Value} {q : Int → Option Nat} {g : Nat} {e : TypeId} {cs : Array Value} (h : KnV w p sg sl kv q) (hk : Kept (fun b => b = g) w w') (hg : Blk w g e cs) : KnV w' p sg sl kv q := by
 rcases h with h | ⟨bk, S, h1, h2, h3⟩
 · exact Or.inl h
 · exact Or.inr ⟨bk, S, h1, h2.kept hk (fun e => h2.ne_blk hg e), h3⟩
def regsL (n : Nat) (o : Nat → PlaceV) : List PlaceV := (List.range n).map o
theorem regAt_L {n : Nat} {o : Nat → PlaceV} {t : Nat} (h : t < n) : regAt (regsL n o) (t : Int) = o t := by
 unfold regAt regsL
 rw [Int.toNat_natCast, List.getD_eq_getElem?_getD, List.getElem?_map, List.getElem?_range h]
 rfl

theorem takes_any2 (base gr gb g0 : Nat) (R : Nat → Prop) (p : Pg) (A : Option Addr) (c : Nat) (A' : Option Addr) (c' sg sl : Nat) (o : Nat → PlaceV) (d a b : PlaceV) (vb va kv : Value) (q : Int → Option Nat) (l : List Mv) (t j : Nat) (w : World) (h : Bd w gb g0 R p A c A' c' sg o) (ht : t < p.wide.length) (hj : j ≤ 1) (hs : 4 ≤ sg) (hs1 : sg ≤ 16)
   (hr : Blk w gr 60 (rowC d a b vb va)) (hb : w.ownsRow base 74 6 vb l.length (l.flatMap Mv.cells)) (hl : l.length ≤ 10) (hbase : base ≤ w.heap.size) (hK : KnV w p sg sl kv q) :
   Calls Try.prog 101 #[.pointer (some ⟨gb, 0, none⟩), .pointer (some ⟨gr, 0, none⟩), .int .i64 (t : Int), .int .i64 (j : Int), kv] w
     (TakePost w base gr d a b vb va (l ++ takeM p.wide (sg : Int) (regsL p.wide.length o) q (t : Int) (j : Int)) (takeP p.wide (sg : Int) (regsL p.wide.length o) (t : Int) (j : Int))) := by
 by_cases h0 : (o t).k = 0
 · have e1 : takeP p.wide (sg : Int) (regsL p.wide.length o) (t : Int) (j : Int) = scr p.wide (sg : Int) (t : Int) (j : Int) := by
     unfold takeP; rw [regAt_L ht, if_neg (by simpa using h0)]
   have e2 : takeM p.wide (sg : Int) (regsL p.wide.length o) q (t : Int) (j : Int) = [takeMv p.wide (sg : Int) (t : Int) (j : Int) (q (t : Int))] := by
     unfold takeM takeMv; rw [regAt_L ht, if_neg (by simpa using h0)]
     rfl
   rw [e1, e2]
   rcases hK with ⟨rfl, hq⟩ | ⟨bk, S, rfl, h2, h3, h4, h5⟩
   · rw [hq]
     exact takes_nil base gr gb g0 R p A c A' c' sg o d a b vb va l t j w h ht hj hs hs1 hr hb hl hbase h0
   · rw [h5]
     exact takes_set base gr gb g0 R p A c A' c' sg o d a b vb va l t j bk S sl w h ht hj hs hs1 hr hb hl hbase h0 h2 h3 (fun n n' => h4 _ n n')
 · have e1 : takeP p.wide (sg : Int) (regsL p.wide.length o) (t : Int) (j : Int) = o t := by
     unfold takeP; rw [regAt_L ht, if_pos h0]
   have e2 : takeM p.wide (sg : Int) (regsL p.wide.length o) q (t : Int) (j : Int) = [] := by
     unfold takeM; rw [regAt_L ht, if_pos h0]
   rw [e1, e2, List.append_nil]
   exact takes_reg base gr gb g0 R p A c A' c' sg o d a b vb va kv l t j w h ht hr hb h0

theorem slRwB : SlTy Try.prog 48 60 8 96 := SlTy.mk' (z := .agg #[.int .i64 0, .int .i64 0, .int .i64 0, .int .i64 0, .int .i64 0, .int .i64 0, .slice none 0 0, .slice none 0 0]) Try.underlying48 (by kernel_rfl) rfl (by decide)

structure RwB (w : World) (base M : Nat) (v : Value) (l : List RwV) : Prop where
 own : w.ownsRow base 60 8 v l.length (l.flatMap RwV.cells)
 le : M ≤ w.heap.size
 each : ∀ x ∈ l, x.ok w (fun b => base ≤ b ∧ b < M ∧ v.ownBlock ≠ some b)
 lt : ∀ b, v.ownBlock = some b → b < M
theorem RwB.kept {w w' : World} {base M : Nat} {v : Value} {l : List RwV} {S : Nat → Prop} (h : RwB w base M v l) (hk : Kept S w w') (hs : ∀ b, base ≤ b → b < M → ¬ S b) : RwB w' base M v l :=
 ⟨own_kept h.own hk (fun b hb => hs b (own_lt h.own hb).1 (h.lt b hb)), Nat.le_trans h.le hk.size, fun x hx => (h.each x hx).kept hk (fun b hb => hs b hb.1 hb.2.1), h.lt⟩
theorem RwB.up {w : World} {base M M' : Nat} {v : Value} {l : List RwV} (h : RwB w base M v l) (hM : M ≤ M') (h2 : M' ≤ w.heap.size) : RwB w base M' v l :=
 ⟨h.own, h2, fun x hx => (h.each x hx).more (fun b hb => ⟨hb.1, by omega, hb.2.2⟩), fun b hb => by have := h.lt b hb; omega⟩
theorem RwB.nil (w : World) (base M : Nat) (h : M ≤ w.heap.size) : RwB w base M (.slice none 0 0) [] :=
 ⟨World.ownsRow_nil _ _ _ _, h, by simp, fun b hb => by simp [Value.ownBlock] at hb⟩
theorem RwB.snoc {w w1 : World} {base M : Nat} {v v1 : Value} {l : List RwV} {x : RwV} (h : RwB w base M v l) (hx : x.ok w (fun b => base ≤ b ∧ b < w.heap.size ∧ v.ownBlock ≠ some b))
   (hk : Kept (fun k => v.ownBlock = some k) w w1) (hown : w1.ownsRow base 60 8 v1 (l.length + 1) (l.flatMap RwV.cells ++ x.cells)) (hat : v1.ownBlock = v.ownBlock ∨ v1.ownBlock = some w.heap.size) : RwB w1 base w1.heap.size v1 (l ++ [x]) := by
 have hz := hk.size
 have hne : ∀ b, b < w.heap.size → v.ownBlock ≠ some b → v1.ownBlock ≠ some b := fun b hb hn e => by
   rcases hat with e1 | e1
   · exact hn (e1 ▸ e)
   · rw [e1] at e; cases e; omega
 refine ⟨?_, Nat.le_refl _, fun y hy => ?_, fun b hb => (own_lt hown hb).2⟩
 · rw [List.length_append, List.flatMap_append]
   simpa using hown
 · rcases List.mem_append.1 hy with hy | hy
   · exact ((h.each y hy).kept hk (fun b hb e => hb.2.2 e)).more (fun b hb => ⟨hb.1, by have := h.le; omega, hne b (by have := h.le; omega) hb.2.2⟩)
   · simp only [List.mem_singleton] at hy
     subst hy
     exact (hx.kept hk (fun b hb e => hb.2.2 e)).more (fun b hb => ⟨hb.1, by omega, hne b hb.2.1 hb.2.2⟩)
theorem RwB.rd {w : World} {base M : Nat} {v : Value} {l : List RwV} (h : RwB w base M v l) : RdRw w (fun b => base ≤ b ∧ b < w.heap.size) v l := by
 obtain ⟨A, c, hv, hl, hr⟩ := own_reads h.own
 exact ⟨A, c, hv, hl, hr.more (fun b hb => ⟨hb.1, (own_lt h.own hb.2).2⟩), fun x hx => (h.each x hx).more (fun b hb => ⟨hb.1, by have := h.le; omega⟩)⟩
theorem ownMv_rd {w : World} {base : Nat} {v : Value} {l : List Mv} {Q : Nat → Prop} (h : w.ownsRow base 74 6 v l.length (l.flatMap Mv.cells)) (ho : ∀ m ∈ l, m.ok) (hq : ∀ b, v.ownBlock = some b → base ≤ b → b < w.heap.size → Q b) : RdMv w Q v l := by
 obtain ⟨A, c, hv, hl, hr⟩ := own_reads h
 exact ⟨A, c, hv, hl, hr.more (fun b hb => hq b hb.2 hb.1 (own_lt h hb.2).2), ho⟩

theorem in_small {n : Int} (h1 : -100 ≤ n) (h2 : n ≤ 100) : inI n := by unfold inI; omega
section
variable {p : Pg} {sg : Nat} {o : Nat → PlaceV}
theorem scr_ok (hs1 : sg ≤ 16) (t j : Int) (hj : 0 ≤ j ∧ j ≤ 1) : (scr p.wide (sg : Int) t j).ok := by
 unfold scr PlaceV.ok
 split
 · exact ⟨in_small (by simp) (by simp), in_small (by simp only; omega) (by simp only; omega)⟩
 · exact ⟨in_small (by simp) (by simp), in_small (by simp only; omega) (by simp only; omega)⟩
theorem takeP_ok (hs1 : sg ≤ 16) (ho : ∀ t, t < p.wide.length → (o t).ok) {t : Int} (ht : tempIn p t) {j : Int} (hj : 0 ≤ j ∧ j ≤ 1) : (takeP p.wide (sg : Int) (regsL p.wide.length o) t j).ok := by
 obtain ⟨t, rfl⟩ := Int.eq_ofNat_of_zero_le ht.1
 have htl : t < p.wide.length := by have := ht.2; omega
 unfold takeP
 rw [regAt_L htl]
 split
 · exact ho t htl
 · exact scr_ok hs1 _ _ hj
theorem none_ok : (⟨0, 0⟩ : PlaceV).ok := ⟨in_small (by simp) (by simp), in_small (by simp) (by simp)⟩
theorem slotP_ok (hw : p.wide.length ≤ 12) {t : Int} (ht : tempIn p t) : (slotP t).ok := by
 have := ht.1; have := ht.2
 exact ⟨in_small (by simp [slotP]) (by simp [slotP]), in_small (by simp only [slotP]; omega) (by simp only [slotP]; omega)⟩
theorem takeM_mok (hw : p.wide.length ≤ 12) (hs1 : sg ≤ 16) {t : Int} (ht : tempIn p t) {j : Int} (hj : 0 ≤ j ∧ j ≤ 1) {q : Int → Option Nat} (hq : ∀ t n, q t = some n → n < 4294967296) : ∀ m ∈ takeM p.wide (sg : Int) (regsL p.wide.length o) q t j, m.ok := by
 intro m hm
 unfold takeM at hm
 split at hm
 · simp at hm
 · simp only [List.mem_singleton] at hm
   subst hm
   cases h : q t with
   | none => exact ⟨scr_ok hs1 _ _ hj, slotP_ok hw ht, by simp⟩
   | some n => exact ⟨scr_ok hs1 _ _ hj, none_ok, hq _ _ h⟩
theorem takeM_len {wide : List Bool} {sg : Int} {regs : List PlaceV} {q : Int → Option Nat} {t j : Int} : (takeM wide sg regs q t j).length ≤ 1 := by
 unfold takeM
 split <;> simp
end
def rowA (p : Pg) (sg : Int) (regs : List PlaceV) (i : In) (j : Nat) : PlaceV := if 0 < j then takeP p.wide sg regs i.a 0 else ⟨0, 0⟩
def rowB (p : Pg) (sg : Int) (regs : List PlaceV) (i : In) (j : Nat) : PlaceV := if 1 < j then takeP p.wide sg regs i.b 1 else ⟨0, 0⟩
def rowM (p : Pg) (sg : Int) (regs : List PlaceV) (q : Int → Option Nat) (i : In) (j : Nat) : List Mv := (if 0 < j then takeM p.wide sg regs q i.a 0 else []) ++ (if 1 < j then takeM p.wide sg regs q i.b 1 else [])
theorem rowM_len {p : Pg} {sg : Int} {regs : List PlaceV} {q : Int → Option Nat} {i : In} {j : Nat} : (rowM p sg regs q i j).length ≤ 2 := by
 unfold rowM
 rw [List.length_append]
 have h1 : (if 0 < j then takeM p.wide sg regs q i.a 0 else []).length ≤ 1 := by split; exact takeM_len; simp
 have h2 : (if 1 < j then takeM p.wide sg regs q i.b 1 else []).length ≤ 1 := by split; exact takeM_len; simp
 omega
theorem uses_many {i : In} (hk : known i.op = true) : (uses i).length = many i.op := by
 have hm : many i.op ≤ 2 := by
   unfold many
   split
   · omega
   · split <;> omega
 unfold uses
 simp; omega
theorem rowF_eq {p : Pg} {sg : Int} {regs : List PlaceV} {q : Int → Option Nat} {i : In} (hk : known i.op = true) :
   rowF p.wide sg regs q i = ⟨destP p.wide sg regs i, rowA p sg regs i (uses i).length, rowB p sg regs i (uses i).length, rowM p sg regs q i (uses i).length, afterM p.wide sg regs i⟩ := by
 rw [uses_many hk]; rfl
theorem TakePost.ex {w : World} {base gr : Nat} {d a b : PlaceV} {vb va : Value} {l' : List Mv} {ret : PlaceV} {e : Ending} {w' : World} {tk tn : Int} (hr : ret = ⟨tk, tn⟩) (h : TakePost w base gr d a b vb va l' ret e w') :
   e = .returned (.agg #[.int .i64 tk, .int .i64 tn]) ∧ ∃ vb', Blk w' gr 60 (rowC d a b vb' va) ∧ w'.ownsRow base 74 6 vb' l'.length (l'.flatMap Mv.cells) ∧ Kept (fun k => k = gr ∨ vb.ownBlock = some k) w w' ∧ ∀ g, vb'.ownBlock = some g → vb.ownBlock = some g ∨ w.heap.size ≤ g := by
 subst hr; exact h
section
variable {p : Pg} {sg : Int} {regs : List PlaceV} {q : Int → Option Nat} {i : In}
theorem rowM_s0 : rowM p sg regs q i 1 = rowM p sg regs q i 0 ++ takeM p.wide sg regs q i.a 0 := by simp [rowM]
theorem rowM_s1 : rowM p sg regs q i 2 = rowM p sg regs q i 1 ++ takeM p.wide sg regs q i.b 1 := by simp [rowM]
theorem rowA_s0 : rowA p sg regs i 1 = takeP p.wide sg regs i.a 0 := rfl
theorem rowB_s1 : rowB p sg regs i 2 = takeP p.wide sg regs i.b 1 := rfl
theorem uses_at0 {t : Int} (h : (uses i)[0]? = some t) : t = i.a := by
 unfold uses at h
 rw [List.getElem?_take] at h
 split at h
 · simpa using h.symm
 · cases h
theorem uses_at1 {t : Int} (h : (uses i)[1]? = some t) : t = i.b := by
 unfold uses at h
 rw [List.getElem?_take] at h
 split at h
 · simpa using h.symm
 · cases h
end
section
variable {p : Pg} {sg : Nat} {o : Nat → PlaceV} {q : Int → Option Nat} {i : In}
theorem rowA_ok (hs1 : sg ≤ 16) (ho : ∀ t, t < p.wide.length → (o t).ok) (hi : InsOk p i) : (rowA p (sg : Int) (regsL p.wide.length o) i (uses i).length).ok := by
 rw [uses_many hi.kn]
 unfold rowA
 split
 · exact takeP_ok hs1 ho (hi.a ‹_›) (by omega)
 · exact none_ok
theorem rowB_ok (hs1 : sg ≤ 16) (ho : ∀ t, t < p.wide.length → (o t).ok) (hi : InsOk p i) : (rowB p (sg : Int) (regsL p.wide.length o) i (uses i).length).ok := by
 rw [uses_many hi.kn]
 unfold rowB
 split
 · exact takeP_ok hs1 ho (hi.b ‹_›) (by omega)
 · exact none_ok
theorem destP_ok (hs1 : sg ≤ 16) (ho : ∀ t, t < p.wide.length → (o t).ok) (hi : InsOk p i) : (destP p.wide (sg : Int) (regsL p.wide.length o) i).ok := by
 unfold destP
 split
 · exact takeP_ok hs1 ho (hi.d ‹_›) (by omega)
 · exact none_ok
theorem rowM_ok (hw : p.wide.length ≤ 12) (hs1 : sg ≤ 16) (hi : InsOk p i) (hq : ∀ t n, q t = some n → n < 4294967296) : ∀ m ∈ rowM p (sg : Int) (regsL p.wide.length o) q i (uses i).length, m.ok := by
 rw [uses_many hi.kn]
 intro m hm
 unfold rowM at hm
 rcases List.mem_append.1 hm with hm | hm
 · split at hm
   · exact takeM_mok hw hs1 (hi.a ‹_›) (by omega) hq m hm
   · simp at hm
 · split at hm
   · exact takeM_mok hw hs1 (hi.b ‹_›) (by omega) hq m hm
   · simp at hm
theorem dest_none (h : gvs i.op = false) : destP p.wide (sg : Int) (regsL p.wide.length o) i = ⟨0, 0⟩ ∧ afterM p.wide (sg : Int) (regsL p.wide.length o) i = [] := by
 unfold afterM destP
 rw [h]; simp
theorem dest_reg {t : Nat} (h : gvs i.op = true) (hd : i.d = (t : Int)) (ht : t < p.wide.length) (h0 : (o t).k ≠ 0) : destP p.wide (sg : Int) (regsL p.wide.length o) i = o t ∧ afterM p.wide (sg : Int) (regsL p.wide.length o) i = [] := by
 unfold afterM destP takeP
 rw [hd, regAt_L ht, if_pos h, if_pos h0, if_neg (fun hc => h0 hc.2)]
 exact ⟨rfl, rfl⟩
theorem dest_slot {t : Nat} (h : gvs i.op = true) (hd : i.d = (t : Int)) (ht : t < p.wide.length) (h0 : (o t).k = 0) : destP p.wide (sg : Int) (regsL p.wide.length o) i = scr p.wide (sg : Int) (t : Int) 0 ∧ afterM p.wide (sg : Int) (regsL p.wide.length o) i = [⟨slotP (t : Int), scr p.wide (sg : Int) (t : Int) 0, false, 0⟩] := by
 unfold afterM destP takeP
 rw [hd, regAt_L ht, if_pos h, if_neg (by simpa using h0), if_pos ⟨h, h0⟩]
 exact ⟨rfl, rfl⟩
end
end Go.Proofs.Ytodmkjeankbieab

