/- Texts of this claim, packed. -/
import Derived.Test.YtodmkjeankbieabKAllk19
set_option linter.all false
namespace Go.Proofs.Ytodmkjeankbieab
open Go.RowKit Go.Sort Go.Maps

def stTo (p : Pg) (ns : List Nat) (sg sl kind n j : Nat) : List Int :=
 if j = 0 then [0] else (List.range (if j < kind then manyP sg sl j else if j = kind then n else 0)).map fun (m : Nat) => (startA p ns sg sl j m : Int)
section
variable {p : Pg} {ns : List Nat} {sg sl kind n j : Nat}
theorem stTo_s (hk : 1 ≤ kind) : stTo p ns sg sl kind (n + 1) kind = stTo p ns sg sl kind n kind ++ [((preF p ns sg sl kind n).length : Int)] := by
 unfold stTo
 simp only [if_neg (show ¬ kind = 0 by omega), Nat.lt_irrefl, if_false, if_true, List.range_succ, List.map_append]
 rfl
theorem stTo_ne (h : j ≠ kind) : stTo p ns sg sl kind (n + 1) j = stTo p ns sg sl kind n j := by
 unfold stTo
 rw [if_neg h, if_neg h]
theorem stTo_next : stTo p ns sg sl kind (manyP sg sl kind) j = stTo p ns sg sl (kind + 1) 0 j := by
 unfold stTo
 by_cases h0 : j = 0
 · rw [if_pos h0, if_pos h0]
 · rw [if_neg h0, if_neg h0]
   by_cases h1 : j < kind
   · rw [if_pos h1, if_pos (by omega)]
   · by_cases h2 : j = kind
     · subst h2; rw [if_neg h1, if_pos rfl, if_pos (by omega)]
     · rw [if_neg h1, if_neg h2, if_neg (by omega)]
       by_cases h3 : j = kind + 1
       · rw [if_pos h3]
       · rw [if_neg h3]
theorem stTo_end (hj : j < 4) : stTo p ns sg sl 4 0 j = stL p ns sg sl j := by
 unfold stTo stL
 by_cases h0 : j = 0
 · rw [if_pos h0, if_pos h0]
 · rw [if_neg h0, if_neg h0, if_pos hj]
theorem stTo_start (hj : j ≠ 0) : stTo p ns sg sl 1 0 j = [] := by
 unfold stTo
 rw [if_neg hj]
 by_cases h : j = 1
 · rw [if_neg (by omega), if_pos h]; rfl
 · rw [if_neg (by omega), if_neg h]; rfl
theorem stTo_len (hs : sg ≤ 16) (hl : sl ≤ 12) (hn : n ≤ manyP sg sl kind) : (stTo p ns sg sl kind n j).length ≤ 16 := by
 have hm : ∀ k, manyP sg sl k ≤ 16 := fun k => by
   unfold manyP; split
   · omega
   · split
     · omega
     · split <;> omega
 unfold stTo
 split
 · simp
 · rw [List.length_map, List.length_range]
   split
   · exact hm j
   · split
     · exact Nat.le_trans hn (hm kind)
     · omega
end

theorem infoFact : (Try.prog.info? 140).map (fun i => (i.zero, i.size, i.bytes)) = some (some (.agg #[.int .i64 0, .int .i64 0, .bool false, .int .i64 0, .int .u32 0]), 5, 40) := by kernel_rfl
theorem slFacts : SlTy Try.prog 118 140 5 40 := SlTy.mk' (z := .agg #[.int .i64 0, .int .i64 0, .bool false, .int .i64 0, .int .u32 0]) Try.underlying118 infoFact rfl (by decide)
theorem slInts : SlTy Try.prog 99 3 1 8 := SlTy.mk' (z := .int .i64 0) Try.underlying99 (by kernel_rfl) rfl (by decide)
theorem flatL_snoc (l : List Fc) (f : Fc) : (l ++ [f]).flatMap Fc.cellL = l.flatMap Fc.cellL ++ f.cellL := by simp [List.flatMap_append]

structure OW (w wr : World) (sg : Nat) (cp : Array Value) (gw : Nat) (vw vc vA vS vN : Value) (l : List Fc) (ns : List Nat) : Prop where
 b0 : Blk wr w.heap.size 25 cp
 b1 : Blk wr (w.heap.size + 1) 47 #[.int .i64 (sg : Int)]
 b2 : Blk wr (w.heap.size + 1 + 1) 121 #[.slice none 0 0, .slice none 0 0, .slice none 0 0, .slice none 0 0, .slice none 0 0]
 bw : Blk wr gw 121 #[vw, vc, vA, vS, vN]
 oa : wr.ownsRow w.heap.size 140 5 vA l.length (l.flatMap Fc.cellL)
 on : wr.ownsRow w.heap.size 36 1 vN ns.length (ns.map fun (n : Nat) => Value.int .u32 (n : Int))
 gl : w.heap.size + 2 < gw
 fr : Fr w wr
structure OS (w wr : World) (sg sl gm gs : Nat) (s : Nat → Value) (L : Nat → List Int) : Prop where
 bm : Blk wr gm 3 #[.int .i64 0, .int .i64 (sg : Int), .int .i64 ((sg : Int) / 2), .int .i64 (sl : Int)]
 bs : Blk wr gs 99 (mkS 4 s)
 st : ∀ k, k < 4 → wr.ownsRow w.heap.size 3 1 (s k) (L k).length ((L k).map (Value.int .i64))
 sep : ∀ i j, i < 4 → j < 4 → i ≠ j → ∀ g, (s i).ownBlock = some g → (s j).ownBlock ≠ some g
 sm : ∀ i, i < 4 → (s i).ownBlock ≠ some gm
 lo : w.heap.size ≤ gm ∧ w.heap.size ≤ gs
section
variable {w wr w' w1 : World} {sg sl gw gm gs : Nat} {cp : Array Value} {vw vc vA vS vN v1 : Value} {l l' : List Fc} {ns : List Nat} {s : Nat → Value} {L : Nat → List Int}
theorem OW.keep (h : OW w wr sg cp gw vw vc vA vS vN l ns) (hk : Fr wr w') : OW w w' sg cp gw vw vc vA vS vN l ns :=
 ⟨h.b0.kept hk (fun h => h), h.b1.kept hk (fun h => h), h.b2.kept hk (fun h => h), h.bw.kept hk (fun h => h), own_kept h.oa hk (fun _ _ h => h), own_kept h.on hk (fun _ _ h => h), h.gl, h.fr.trans hk⟩
theorem OS.keep (h : OS w wr sg sl gm gs s L) (hk : Fr wr w') : OS w w' sg sl gm gs s L :=
 ⟨h.bm.kept hk (fun h => h), h.bs.kept hk (fun h => h), fun k hk4 => own_kept (h.st k hk4) hk (fun _ _ h => h), h.sep, h.sm, h.lo⟩
theorem OS.other (h : OS w wr sg sl gm gs s L) {S : Nat → Prop} (hk : Kept S wr w') (h1 : ¬ S gm) (h2 : ¬ S gs) (h3 : ∀ k, k < 4 → ∀ g, (s k).ownBlock = some g → ¬ S g) : OS w w' sg sl gm gs s L :=
 ⟨h.bm.kept hk h1, h.bs.kept hk h2, fun k hk4 => own_kept (h.st k hk4) hk (h3 k hk4), h.sep, h.sm, h.lo⟩
theorem OW.putA (h : OW w wr sg cp gw vw vc vA vS vN l ns) (ho : w1.ownsRow w.heap.size 140 5 v1 l'.length (l'.flatMap Fc.cellL)) (hk : Kept (fun k => vA.ownBlock = some k) wr w1) :
   OW w (w1.setCell ⟨gw, 2, none⟩ v1) sg cp gw vw vc v1 vS vN l' ns := by
 have hb := h.bw.kept hk (own_blk_ne h.oa h.bw (by decide))
 have hg := ((Kept.refl (fun k => k = gw) w1).setCell (p := ⟨gw, 2, none⟩) (fun _ => rfl) v1)
 have hgl := h.gl
 refine ⟨(h.b0.kept hk (own_blk_ne h.oa h.b0 (by decide))).kept hg (by omega), (h.b1.kept hk (own_blk_ne h.oa h.b1 (by decide))).kept hg (by omega), (h.b2.kept hk (own_blk_ne h.oa h.b2 (by decide))).kept hg (by omega), ?_, own_kept ho hg (fun g hg2 e => own_blk_ne ho hb (by decide) (e ▸ hg2)), ?_, hgl, ?_⟩
 · have := hb.set_ 2 v1
   simpa using this
 · exact own_kept (own_kept h.on hk (fown_own_ne h.oa h.on (by decide))) hg (fun g hg2 e => own_blk_ne h.on h.bw (by decide) (e ▸ hg2))
 · exact (h.fr.then hk (fun i hi e => by have := (own_lt h.oa e).1; omega)).setCell (fun e => by simp only at e; omega) _
theorem OS.putA (h : OS w wr sg sl gm gs s L) (hw : OW w wr sg cp gw vw vc vA vS vN l ns) (hk : Kept (fun k => vA.ownBlock = some k) wr w1) : OS w (w1.setCell ⟨gw, 2, none⟩ v1) sg sl gm gs s L := by
 have h2 := h.other hk (own_blk_ne hw.oa h.bm (by decide)) (own_blk_ne hw.oa h.bs (by decide)) (fun k hk4 => fown_own_ne hw.oa (h.st k hk4) (by decide))
 have hb := hw.bw.kept hk (own_blk_ne hw.oa hw.bw (by decide))
 exact h2.other ((Kept.refl (fun k => k = gw) w1).setCell (p := ⟨gw, 2, none⟩) (fun _ => rfl) v1) (fun e => h2.bm.ne_ hb (by decide) e) (fun e => h2.bs.ne_ hb (by decide) e) (fun k hk4 g hg e => own_blk_ne (h2.st k hk4) hb (by decide) (e ▸ hg))
theorem OW.putS (h : OW w wr sg cp gw vw vc vA vS vN l ns) (hs : OS w wr sg sl gm gs s L) {k : Nat} (hk4 : k < 4) (hk : Kept (fun b => (s k).ownBlock = some b) wr w1) : OW w (w1.setCell ⟨gs, k, none⟩ v1) sg cp gw vw vc vA vS vN l ns := by
 have ho := hs.st k hk4
 have hbs := hs.bs.kept hk (own_blk_ne ho hs.bs (by decide))
 have hg := ((Kept.refl (fun b => b = gs) w1).setCell (p := ⟨gs, k, none⟩) (fun _ => rfl) v1)
 have h1 := h.b0.kept hk (own_blk_ne ho h.b0 (by decide))
 have h2 := h.b1.kept hk (own_blk_ne ho h.b1 (by decide))
 have h3 := h.b2.kept hk (own_blk_ne ho h.b2 (by decide))
 have h4 := h.bw.kept hk (own_blk_ne ho h.bw (by decide))
 have h5 := own_kept h.oa hk (fown_own_ne ho h.oa (by decide))
 have h6 := own_kept h.on hk (fown_own_ne ho h.on (by decide))
 have hlo := hs.lo.2
 exact ⟨h1.kept hg (fun e => h1.ne_ hbs (by decide) e), h2.kept hg (fun e => h2.ne_ hbs (by decide) e), h3.kept hg (fun e => h3.ne_ hbs (by decide) e), h4.kept hg (fun e => h4.ne_ hbs (by decide) e),
   own_kept h5 hg (fun g hg2 e => own_blk_ne h5 hbs (by decide) (e ▸ hg2)), own_kept h6 hg (fun g hg2 e => own_blk_ne h6 hbs (by decide) (e ▸ hg2)), h.gl,
   (h.fr.then hk (fun i hi e => by have := (own_lt ho e).1; omega)).setCell (fun e => by simp only at e; omega) _⟩
theorem OS.putS (hs : OS w wr sg sl gm gs s L) {k : Nat} (hk4 : k < 4) {L' : Nat → List Int} (ho : w1.ownsRow w.heap.size 3 1 v1 (L' k).length ((L' k).map (Value.int .i64))) (hL : ∀ j, j ≠ k → L' j = L j)
   (hk : Kept (fun b => (s k).ownBlock = some b) wr w1) (hat : v1.ownBlock = (s k).ownBlock ∨ v1.ownBlock = some wr.heap.size) : OS w (w1.setCell ⟨gs, k, none⟩ v1) sg sl gm gs (fun j => if j = k then v1 else s j) L' := by
 have hok := hs.st k hk4
 have hbs := hs.bs.kept hk (own_blk_ne hok hs.bs (by decide))
 have hg := ((Kept.refl (fun b => b = gs) w1).setCell (p := ⟨gs, k, none⟩) (fun _ => rfl) v1)
 have hnew : ∀ g, v1.ownBlock = some g → (s k).ownBlock = some g ∨ g = wr.heap.size := fun g hg => hat.elim (fun e => Or.inl (e ▸ hg)) (fun e => Or.inr (by rw [hg] at e; injection e))
 refine ⟨(hs.bm.kept hk (hs.sm k hk4)).kept hg (fun e => hs.bm.ne_ hs.bs (by decide) e), ?_, fun j hj => ?_, fun i j hi hj hij g hgi => ?_, fun i hi => ?_, hs.lo⟩
 · have := hbs.set_ k v1
   rwa [mkS_set] at this
 · by_cases e : j = k
   · subst e; simp only [if_true]; exact own_kept ho hg (fun g hg2 e => own_blk_ne ho hbs (by decide) (e ▸ hg2))
   · simp only [if_neg e, hL j e]
     have h1 := own_kept (hs.st j hj) hk (hs.sep j k hj hk4 e)
     exact own_kept h1 hg (fun g hg2 e => own_blk_ne h1 hbs (by decide) (e ▸ hg2))
 · by_cases e : i = k
   · subst e
     simp only [if_true] at hgi
     simp only [if_neg (Ne.symm hij)]
     intro hc
     rcases hnew g hgi with h | h
     · exact hs.sep i j hi hj hij g h hc
     · have := (own_lt (hs.st j hj) hc).2; omega
   · simp only [if_neg e] at hgi
     by_cases e2 : j = k
     · subst e2
       simp only [if_true]
       intro hc
       rcases hnew g hc with h | h
       · exact hs.sep i j hi hj hij g hgi h
       · have := (own_lt (hs.st i hi) hgi).2; omega
     · simp only [if_neg e2]
       exact hs.sep i j hi hj hij g hgi
 · by_cases e : i = k
   · subst e
     simp only [if_true]
     intro hc
     rcases hnew gm hc with h | h
     · exact hs.sm i hi h
     · have := hs.bm.lt; omega
   · simp only [if_neg e]; exact hs.sm i hi
theorem manyP_le {k : Nat} (hs : sg ≤ 16) (hl : sl ≤ 12) : manyP sg sl k ≤ 16 := by
 unfold manyP; split
 · omega
 · split
   · omega
   · split <;> omega
theorem OS.many (h : OS w wr sg sl gm gs s L) {k : Nat} (hk : k = 1 ∨ k = 2 ∨ k = 3) : wr.cell? ⟨gm, k, none⟩ = some (.int .i64 (manyP sg sl k : Int)) := by
 rw [h.bm.cell]
 rcases hk with rfl | rfl | rfl
 · simp [manyP]
 · simp [manyP]
 · simp [manyP]
theorem OS.start {p : Pg} (h : OW w wr sg cp gw vw vc vA (.slice none 0 0) vN l ns) (hm : Blk wr gm 3 #[.int .i64 0, .int .i64 (sg : Int), .int .i64 ((sg : Int) / 2), .int .i64 (sl : Int)]) (hgm : w.heap.size ≤ gm) :
   ∃ (gs : Nat) (s : Nat → Value), OW w ((((((wr.alloc (.cells #[.int .i64 0] 3)).alloc (.cells #[] 3)).alloc (.cells #[] 3)).alloc (.cells #[] 3)).alloc (.cells #[.slice (some ⟨wr.heap.size, 0, none⟩) 1 1, .slice (some ⟨wr.heap.size + 1, 0, none⟩) 0 0, .slice (some ⟨wr.heap.size + 2, 0, none⟩) 0 0, .slice (some ⟨wr.heap.size + 3, 0, none⟩) 0 0] 99)).setCell ⟨gw, 3, none⟩ (.slice (some ⟨wr.heap.size + 4, 0, none⟩) 4 4)) sg cp gw vw vc vA (.slice (some ⟨gs, 0, none⟩) 4 4) vN l ns ∧
     OS w ((((((wr.alloc (.cells #[.int .i64 0] 3)).alloc (.cells #[] 3)).alloc (.cells #[] 3)).alloc (.cells #[] 3)).alloc (.cells #[.slice (some ⟨wr.heap.size, 0, none⟩) 1 1, .slice (some ⟨wr.heap.size + 1, 0, none⟩) 0 0, .slice (some ⟨wr.heap.size + 2, 0, none⟩) 0 0, .slice (some ⟨wr.heap.size + 3, 0, none⟩) 0 0] 99)).setCell ⟨gw, 3, none⟩ (.slice (some ⟨wr.heap.size + 4, 0, none⟩) 4 4)) sg sl gm gs s (stTo p ns sg sl 1 0) := by
 obtain ⟨w6, hw6⟩ : ∃ w6, w6 = (((((wr.alloc (.cells #[.int .i64 0] 3)).alloc (.cells #[] 3)).alloc (.cells #[] 3)).alloc (.cells #[] 3)).alloc (.cells #[.slice (some ⟨wr.heap.size, 0, none⟩) 1 1, .slice (some ⟨wr.heap.size + 1, 0, none⟩) 0 0, .slice (some ⟨wr.heap.size + 2, 0, none⟩) 0 0, .slice (some ⟨wr.heap.size + 3, 0, none⟩) 0 0] 99)) := ⟨_, rfl⟩
 have hk : Fr wr w6 := by rw [hw6]; exact (((((Kept.refl _ wr).alloc _).alloc _).alloc _).alloc _).alloc _
 have h6 := h.keep hk
 have hm6 := hm.kept hk (fun h => h)
 have hsz := Kept.size h.fr
 have b0 : Blk w6 wr.heap.size 3 #[.int .i64 0] := by rw [hw6]; exact ((((Blk.new wr _ _).alloc _).alloc _).alloc _).alloc _
 have b1 : Blk w6 (wr.heap.size + 1) 3 #[] := by
   rw [hw6]
   have := (((Blk.new (wr.alloc (.cells #[.int .i64 0] 3)) 3 #[]).alloc (.cells #[] 3)).alloc (.cells #[] 3)).alloc (.cells #[.slice (some ⟨wr.heap.size, 0, none⟩) 1 1, .slice (some ⟨wr.heap.size + 1, 0, none⟩) 0 0, .slice (some ⟨wr.heap.size + 2, 0, none⟩) 0 0, .slice (some ⟨wr.heap.size + 3, 0, none⟩) 0 0] 99)
   simpa using this
 have b2 : Blk w6 (wr.heap.size + 2) 3 #[] := by
   rw [hw6]
   have := ((Blk.new ((wr.alloc (.cells #[.int .i64 0] 3)).alloc (.cells #[] 3)) 3 #[]).alloc (.cells #[] 3)).alloc (.cells #[.slice (some ⟨wr.heap.size, 0, none⟩) 1 1, .slice (some ⟨wr.heap.size + 1, 0, none⟩) 0 0, .slice (some ⟨wr.heap.size + 2, 0, none⟩) 0 0, .slice (some ⟨wr.heap.size + 3, 0, none⟩) 0 0] 99)
   simpa using this
 have b3 : Blk w6 (wr.heap.size + 3) 3 #[] := by
   rw [hw6]
   have := (Blk.new (((wr.alloc (.cells #[.int .i64 0] 3)).alloc (.cells #[] 3)).alloc (.cells #[] 3)) 3 #[]).alloc (.cells #[.slice (some ⟨wr.heap.size, 0, none⟩) 1 1, .slice (some ⟨wr.heap.size + 1, 0, none⟩) 0 0, .slice (some ⟨wr.heap.size + 2, 0, none⟩) 0 0, .slice (some ⟨wr.heap.size + 3, 0, none⟩) 0 0] 99)
   simpa using this
 have b4 : Blk w6 (wr.heap.size + 4) 99 #[.slice (some ⟨wr.heap.size, 0, none⟩) 1 1, .slice (some ⟨wr.heap.size + 1, 0, none⟩) 0 0, .slice (some ⟨wr.heap.size + 2, 0, none⟩) 0 0, .slice (some ⟨wr.heap.size + 3, 0, none⟩) 0 0] := by
   rw [hw6]
   have := Blk.new ((((wr.alloc (.cells #[.int .i64 0] 3)).alloc (.cells #[] 3)).alloc (.cells #[] 3)).alloc (.cells #[] 3)) 99 #[.slice (some ⟨wr.heap.size, 0, none⟩) 1 1, .slice (some ⟨wr.heap.size + 1, 0, none⟩) 0 0, .slice (some ⟨wr.heap.size + 2, 0, none⟩) 0 0, .slice (some ⟨wr.heap.size + 3, 0, none⟩) 0 0]
   simpa using this
 rw [← hw6]
 have hg := (Kept.refl (fun b => b = gw) w6).setCell (p := ⟨gw, 3, none⟩) (fun _ => rfl) (.slice (some ⟨wr.heap.size + 4, 0, none⟩) 4 4)
 have hbw := h6.bw
 have hgl := h.gl
 have hne : ∀ {g : Nat} {cs : Array Value} {t : TypeId}, Blk w6 g t cs → t ≠ 121 → g ≠ gw := fun hb ht => hb.ne_ hbw ht
 have one : ∀ {g : Nat} {cs : Array Value} {n : Nat}, Blk w6 g 3 cs → w.heap.size ≤ g → cs.size = n → n ≤ maxLen → w6.ownsRow w.heap.size 3 1 (.slice (some ⟨g, 0, none⟩) n n) n cs.toList := fun {g cs n} hb hbg hn hm =>
   ⟨by simpa using hn, Or.inr ⟨g, n, cs, rfl, hbg, hb, Nat.le_refl _, hm, by omega, List.take_of_length_le (by rw [Array.length_toList]; omega)⟩⟩
 refine ⟨wr.heap.size + 4, fun j => if j = 0 then .slice (some ⟨wr.heap.size, 0, none⟩) 1 1 else .slice (some ⟨wr.heap.size + j, 0, none⟩) 0 0, ?_, ?_⟩
 · refine ⟨h6.b0.kept hg (by omega), h6.b1.kept hg (by omega), h6.b2.kept hg (by omega), ?_, own_kept h6.oa hg (fun g hg2 e => own_blk_ne h6.oa hbw (by decide) (e ▸ hg2)), own_kept h6.on hg (fun g hg2 e => own_blk_ne h6.on hbw (by decide) (e ▸ hg2)), hgl, h6.fr.then hg (fun i hi e => by omega)⟩
   have := hbw.set_ 3 (.slice (some ⟨wr.heap.size + 4, 0, none⟩) 4 4)
   simpa using this
 · refine ⟨hm6.kept hg (hne hm6 (by decide)), ?_, fun k hk4 => ?_, fun i j hi hj hij g hgi => ?_, fun i hi => ?_, ⟨hgm, by omega⟩⟩
   · have := b4.kept hg (hne b4 (by decide))
     rw [show mkS 4 (fun j => if j = 0 then Value.slice (some ⟨wr.heap.size, 0, none⟩) 1 1 else .slice (some ⟨wr.heap.size + j, 0, none⟩) 0 0) = #[.slice (some ⟨wr.heap.size, 0, none⟩) 1 1, .slice (some ⟨wr.heap.size + 1, 0, none⟩) 0 0, .slice (some ⟨wr.heap.size + 2, 0, none⟩) 0 0, .slice (some ⟨wr.heap.size + 3, 0, none⟩) 0 0] from by
       simp [mkS, List.range_succ]]
     exact this
   · by_cases e : k = 0
     · subst e
       have h1 := own_kept (one b0 (by omega) rfl (by decide)) hg (fun g hg2 e => by
         have : wr.heap.size = g := by simpa [Value.ownBlock] using hg2
         exact hne b0 (by decide) (this.trans e))
       simpa [stTo] using h1
     · have hz : (stTo p ns sg sl 1 0 k) = [] := stTo_start e
       rw [hz]
       simp only [if_neg e]
       have hb : Blk w6 (wr.heap.size + k) 3 #[] := by
         have : k = 1 ∨ k = 2 ∨ k = 3 := by omega
         rcases this with rfl | rfl | rfl
         · exact b1
         · exact b2
         · exact b3
       have h1 := own_kept (one hb (by omega) rfl (Nat.zero_le _)) hg (fun g hg2 e => by
         have : wr.heap.size + k = g := by simpa [Value.ownBlock] using hg2
         exact hne hb (by decide) (this.trans e))
       simpa using h1
   · have e1 : ∀ i, (if i = 0 then Value.slice (some ⟨wr.heap.size, 0, none⟩) 1 1 else .slice (some ⟨wr.heap.size + i, 0, none⟩) 0 0).ownBlock = some (wr.heap.size + i) := fun i => by
       by_cases e : i = 0
       · subst e; simp [Value.ownBlock]
       · rw [if_neg e]; simp [Value.ownBlock]
     simp only [e1] at hgi ⊢
     intro hc
     rw [← hgi] at hc
     injection hc with hc
     omega
   · have e1 : (if i = 0 then Value.slice (some ⟨wr.heap.size, 0, none⟩) 1 1 else .slice (some ⟨wr.heap.size + i, 0, none⟩) 0 0).ownBlock = some (wr.heap.size + i) := by
       by_cases e : i = 0
       · subst e; simp [Value.ownBlock]
       · rw [if_neg e]; simp [Value.ownBlock]
     simp only [e1]
     intro hc
     injection hc with hc
     have := hm.lt
     omega
end

theorem may8_any (R : Nat → Prop) (v : Value) (p : Pg) (k t : Nat) (w : World) (h : RdPg w R v p) (hk : k = 1 ∨ k = 2 ∨ k = 3) (ht : t < p.wide.length) :
   Calls Try.prog 96 #[v, .int .i64 (k : Int), .int .i64 (t : Int)] w fun e w' => e = .returned (.bool (mayT p.wide (k : Int) (t : Int))) ∧ Fr w w' := by
 obtain ⟨vw, vc, rfl, hw, ⟨A', c', rfl, _, _, _⟩⟩ := h
 have HB := Lib.hid (show Blk (w.alloc (.cells #[vw, .slice A' p.code.length c'] 25)) w.heap.size 25 #[vw, .slice A' p.code.length c'] from Blk.new w _ _)
 have HF := Lib.hid (show Fr w (w.alloc (.cells #[vw, .slice A' p.code.length c'] 25)) from (Kept.refl _ w).alloc _)
 obtain ⟨b, off, c, rfl, _, hb, hcell⟩ := hw.at_ (List.getElem?_eq_getElem ht)
 have hwd : p.wide[t] = wd p.wide (t : Int) := by unfold wd; simp [List.getD, List.getElem?_eq_getElem ht]
 rw [hwd] at hcell
 have HV := Lib.hid (rfl : mayT p.wide (k : Int) (t : Int) = mayT p.wide (k : Int) (t : Int))
 unfold mayT at HV ⊢
 clear hwd
 have ht0 : (0 : Int) ≤ (t : Int) := Int.natCast_nonneg _
 have ht1 : (t : Int) < (p.wide.length : Int) := by omega
 clear HV
 generalize wd p.wide (t : Int) = x at *
 have hb' : b < w.heap.size := hb
 rcases hk with rfl | rfl | rfl
 all_goals
   cases x
   all_goals
     go_enter Try.func96, Try.ntmps96
     go_wp2
     go_ret
     exact ⟨by simp, HF.out⟩
end Go.Proofs.Ytodmkjeankbieab

