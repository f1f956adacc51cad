/- Texts of this claim, packed. -/
import Derived.Test.YtodmkjeankbieaaGreatDoorKAllk12
import Derived.Deep.Cut
import Derived.Deep.CutRange
import Derived.Deep.RegionLaw
set_option linter.all false
namespace Go.Proofs.YtodmkjeankbieaaGreatDoor
open Go.RowKit Go.Sort Go.Maps

theorem fown_own_ne {w : World} {base base' : Nat} {e e' : TypeId} {size size' n n' : Nat} {v v' : Value} {xs xs' : List Value} (h : w.ownsRow base e size v n xs) (h' : w.ownsRow base' e' size' v' n' xs') (hne : e ≠ e') : ∀ g, v'.ownBlock = some g → ¬ v.ownBlock = some g := by
 intro g hg
 rcases h'.2 with ⟨rfl, _⟩ | ⟨g', cap, cur, rfl, _, hh, _⟩
 · simp [Value.ownBlock] at hg
 · have : g' = g := by simpa [Value.ownBlock] using hg
   subst this
   exact own_blk_ne h (t := e') (cs := cur) hh hne

def numsStep (l : List Nat) (i : In) : List Nat := if i.op = 1 ∧ i.n ∉ l then l ++ [i.n] else l
def fnumsTo (code : List In) (k : Nat) : List Nat := (code.take k).foldl numsStep [0]
theorem fnumsTo_s {code : List In} {k : Nat} {i : In} (h : code[k]? = some i) : fnumsTo code (k + 1) = numsStep (fnumsTo code k) i := by
 unfold fnumsTo
 rw [List.take_add_one, h, List.foldl_append]; rfl
theorem numsStep_mem (l : List Nat) (i : In) (n : Nat) : n ∈ numsStep l i ↔ n ∈ l ∨ (i.op = 1 ∧ i.n = n) := by
 unfold numsStep
 split
 · rename_i h
   simp only [List.mem_append, List.mem_singleton]
   constructor
   · rintro (h1 | rfl)
     · exact Or.inl h1
     · exact Or.inr ⟨h.1, rfl⟩
   · rintro (h1 | ⟨_, rfl⟩)
     · exact Or.inl h1
     · exact Or.inr rfl
 · rename_i h
   constructor
   · exact Or.inl
   · rintro (h1 | ⟨h1, rfl⟩)
     · exact h1
     · exact Classical.byContradiction fun hc => h ⟨h1, hc⟩
theorem nums_fold_mem : ∀ (code : List In) (l : List Nat) (n : Nat), n ∈ code.foldl numsStep l ↔ n ∈ l ∨ ∃ i ∈ code, i.op = 1 ∧ i.n = n
 | [], l, n => by simp
 | i :: code, l, n => by
   rw [List.foldl_cons, nums_fold_mem code, numsStep_mem]
   simp [or_assoc]
theorem fnumsTo_all (p : Pg) (n : Nat) : n ∈ fnumsTo p.code p.code.length ↔ NumIn p n := by
 unfold fnumsTo NumIn
 rw [List.take_length, nums_fold_mem]
 simp
theorem numsStep_len (l : List Nat) (i : In) : (numsStep l i).length ≤ l.length + 1 := by
 unfold numsStep; split <;> simp
theorem nums_fold_len : ∀ (code : List In) (l : List Nat), (code.foldl numsStep l).length ≤ l.length + code.length
 | [], l => by simp
 | i :: code, l => by
   rw [List.foldl_cons, List.length_cons]
   have := nums_fold_len code (numsStep l i); have := numsStep_len l i; omega
theorem fnumsTo_len (code : List In) (k : Nat) : (fnumsTo code k).length ≤ 1 + k := by
 have := nums_fold_len (code.take k) [0]
 unfold fnumsTo
 rw [List.length_take] at this
 simp only [List.length_cons, List.length_nil] at this
 omega
def preO (sg sl k : Nat) : List PlaceV := preL sg sl (k + 1) 0
theorem preO_s (sg sl : Nat) {k : Nat} (hk : k = 0 ∨ k = 1) : preL sg sl (k + 1) (manyP sg sl (k + 1)) = preO sg sl (k + 1) := by
 rcases hk with rfl | rfl
 · exact (preL_two sg sl).symm
 · exact (preL_three sg sl).symm
theorem preL_len {sg sl k n : Nat} (hk : k = 1 ∨ k = 2 ∨ k = 3) (hn : n ≤ manyP sg sl k) (hs : sg ≤ 16) (hl : sl ≤ 12) : (preL sg sl k n).length ≤ 36 := by
 unfold manyP at hn
 unfold preL plK
 rcases hk with rfl | rfl | rfl
 · simp at hn ⊢; omega
 · simp at hn ⊢; omega
 · simp at hn ⊢; omega
theorem infoPlaceO : (Tryz.prog.info? 99).map (fun i => (i.zero, i.size, i.bytes)) = some (some (.agg #[.int .i64 0, .int .i64 0]), 2, 16) := by kernel_rfl
theorem slPlaces : SlTy Tryz.prog 82 99 2 16 := SlTy.mk' (z := .agg #[.int .i64 0, .int .i64 0]) Tryz.underlying82 infoPlaceO rfl (by decide)
theorem slU32s : SlTy Tryz.prog 29 35 1 4 := SlTy.mk' (z := .int .u32 0) Tryz.underlying29 (by kernel_rfl) rfl (by decide)

def preX (sg sl k : Nat) : List PlaceV := if k = 3 then placesL sg sl else preO sg sl k
structure FO (w wr : World) (p : Pg) (sg : Nat) (A : Option Addr) (c : Nat) (A' : Option Addr) (c' : Nat) (vp vn : Value) (l : List PlaceV) (ns : List Nat) : Prop where
 pb : Blk wr w.heap.size 28 #[.slice A p.wide.length c, .slice A' p.code.length c']
 tb : Blk wr (w.heap.size + 1) 52 #[.int .i64 (sg : Int)]
 wb : Blk wr (w.heap.size + 1 + 1 + 1) 143 #[.slice A p.wide.length c, .slice A' p.code.length c', vp, vn]
 op : wr.ownsRow w.heap.size 99 2 vp l.length (l.flatMap PlaceV.cells)
 on : wr.ownsRow w.heap.size 35 1 vn ns.length (ns.map fun (n : Nat) => Value.int .u32 (n : Int))
 fr : Fr w wr
section
variable {w wr w' w1 : World} {p : Pg} {sg : Nat} {A : Option Addr} {c : Nat} {A' : Option Addr} {c' : Nat} {vp vn v1 : Value} {l l' : List PlaceV} {ns ns' : List Nat}
theorem FO.keep (h : FO w wr p sg A c A' c' vp vn l ns) (hk : Fr wr w') : FO w w' p sg A c A' c' vp vn l ns :=
 ⟨h.pb.kept hk (fun h => h), h.tb.kept hk (fun h => h), h.wb.kept hk (fun h => h), own_kept h.op hk (fun _ _ h => h), own_kept h.on hk (fun _ _ h => h), h.fr.trans hk⟩
theorem FO.putP (h : FO w wr p sg A c A' c' vp vn l ns) (ho : w1.ownsRow w.heap.size 99 2 v1 l'.length (l'.flatMap PlaceV.cells)) (hk : Kept (fun k => vp.ownBlock = some k) wr w1) :
   FO w (w1.setCell ⟨w.heap.size + 1 + 1 + 1, 2, none⟩ v1) p sg A c A' c' v1 vn l' ns := by
 have hb := h.wb.kept hk (own_blk_ne h.op h.wb (by decide))
 have hg := ((Kept.refl (fun k => k = w.heap.size + 1 + 1 + 1) w1).setCell (p := ⟨w.heap.size + 1 + 1 + 1, 2, none⟩) (fun _ => rfl) v1)
 refine ⟨(h.pb.kept hk (own_blk_ne h.op h.pb (by decide))).kept hg (by omega), (h.tb.kept hk (own_blk_ne h.op h.tb (by decide))).kept hg (by omega), ?_, own_kept ho hg (fun g hg2 e => own_blk_ne ho hb (by decide) (e ▸ hg2)), ?_, ?_⟩
 · have := hb.set_ 2 v1
   simpa using this
 · exact own_kept (own_kept h.on hk (fown_own_ne h.op h.on (by decide))) hg (fun g hg2 e => own_blk_ne h.on h.wb (by decide) (e ▸ hg2))
 · exact (h.fr.then hk (fun i hi e => by have := (own_lt h.op e).1; omega)).setCell (fun e => by simp only at e; omega) _
theorem FO.putN (h : FO w wr p sg A c A' c' vp vn l ns) (ho : w1.ownsRow w.heap.size 35 1 v1 ns'.length (ns'.map fun (n : Nat) => Value.int .u32 (n : Int))) (hk : Kept (fun k => vn.ownBlock = some k) wr w1) :
   FO w (w1.setCell ⟨w.heap.size + 1 + 1 + 1, 3, none⟩ v1) p sg A c A' c' vp v1 l ns' := by
 have hb := h.wb.kept hk (own_blk_ne h.on h.wb (by decide))
 have hg := ((Kept.refl (fun k => k = w.heap.size + 1 + 1 + 1) w1).setCell (p := ⟨w.heap.size + 1 + 1 + 1, 3, none⟩) (fun _ => rfl) v1)
 refine ⟨(h.pb.kept hk (own_blk_ne h.on h.pb (by decide))).kept hg (by omega), (h.tb.kept hk (own_blk_ne h.on h.tb (by decide))).kept hg (by omega), ?_, ?_, own_kept ho hg (fun g hg2 e => own_blk_ne ho hb (by decide) (e ▸ hg2)), ?_⟩
 · have := hb.set_ 3 v1
   simpa using this
 · exact own_kept (own_kept h.op hk (fown_own_ne h.on h.op (by decide))) hg (fun g hg2 e => own_blk_ne h.op h.wb (by decide) (e ▸ hg2))
 · exact (h.fr.then hk (fun i hi e => by have := (own_lt h.on e).1; omega)).setCell (fun e => by simp only at e; omega) _
theorem FO.congr (h : FO w wr p sg A c A' c' vp vn l ns) (e : l = l') : FO w wr p sg A c A' c' vp vn l' ns := e ▸ h
end
theorem flat_snoc (l : List PlaceV) (k n : Nat) : (l ++ [(⟨(k : Int), (n : Int)⟩ : PlaceV)]).flatMap PlaceV.cells = l.flatMap PlaceV.cells ++ [.int .i64 (k : Int), .int .i64 (n : Int)] := by simp [List.flatMap_append, PlaceV.cells]

set_option maxHeartbeats 8000000 in
set_option maxRecDepth 100000 in
theorem factsOf_any (R : Nat → Prop) (v : Value) (p : Pg) (sg sl : Nat) (w : World) (h : RdPg w R v p) (hw : p.wide.length ≤ 12) (hc : p.code.length ≤ 40) (hs : sg ≤ 16) (hl : sl ≤ 12) (hR : ∀ x, R x → x < w.heap.size) :
   Calls Tryz.prog 31 #[v, .agg #[.int .i64 (sg : Int)], .int .i64 (sl : Int)] w fun e w' => ∃ (gw : Nat) (A : Option Addr) (c : Nat) (A' : Option Addr) (c' : Nat) (Ap : Option Addr) (cp : Nat) (An : Option Addr) (cn : Nat), e = .returned (.pointer (some ⟨gw, 0, none⟩)) ∧
     FWd w' gw (fun b => b < w'.heap.size) p sg sl (fnumsTo p.code p.code.length) A c A' c' (.slice Ap (placesL sg sl).length cp) An cn ∧ Fr w w' ∧ w.heap.size ≤ gw := by
 have HPG := Lib.hid h
 obtain ⟨vw, vc, rfl, ⟨A, c, rfl, hwl, _⟩, ⟨A', c', rfl, hcl, hrc, _⟩⟩ := h
 have HRC := Lib.hid hrc
 have HRR := Lib.hid hR
 have HO0 := Lib.hid (show FO w ((((w.alloc (.cells #[.slice A p.wide.length c, .slice A' p.code.length c'] 28)).alloc (.cells #[.int .i64 (sg : Int)] 52)).alloc (.cells #[.int .u32 0] 35)).alloc (.cells #[.slice A p.wide.length c, .slice A' p.code.length c', .slice none 0 0, .slice (some ⟨w.heap.size + 1 + 1, 0, none⟩) 1 1] 143)) p sg A c A' c' (.slice none 0 0) (.slice (some ⟨w.heap.size + 1 + 1, 0, none⟩) 1 1) (preO sg sl 0) [0] from by
   refine ⟨((((Blk.new w _ _).alloc _).alloc _).alloc _), ?_, ?_, World.ownsRow_nil _ _ _ _, ?_, ((((Kept.refl _ w).alloc _).alloc _).alloc _).alloc _⟩
   · have := ((Blk.new (w.alloc (.cells #[.slice A p.wide.length c, .slice A' p.code.length c'] 28)) 52 #[.int .i64 (sg : Int)]).alloc (.cells #[.int .u32 0] 35)).alloc (.cells #[.slice A p.wide.length c, .slice A' p.code.length c', .slice none 0 0, .slice (some ⟨w.heap.size + 1 + 1, 0, none⟩) 1 1] 143)
     simpa using this
   · have := Blk.new (((w.alloc (.cells #[.slice A p.wide.length c, .slice A' p.code.length c'] 28)).alloc (.cells #[.int .i64 (sg : Int)] 52)).alloc (.cells #[.int .u32 0] 35)) 143 #[.slice A p.wide.length c, .slice A' p.code.length c', .slice none 0 0, .slice (some ⟨w.heap.size + 1 + 1, 0, none⟩) 1 1]
     simpa using this
   · have := World.ownsRow_lit (base := w.heap.size) (e := 35) (size := 1) ((w.alloc (.cells #[.slice A p.wide.length c, .slice A' p.code.length c'] 28)).alloc (.cells #[.int .i64 (sg : Int)] 52)) #[.int .u32 0] 1 (by simp; omega) (by decide) rfl
     have := World.ownsRow.alloc this (.cells #[.slice A p.wide.length c, .slice A' p.code.length c', .slice none 0 0, .slice (some ⟨w.heap.size + 1 + 1, 0, none⟩) 1 1] 143)
     simpa using this)
 unfold maxLen at hwl hcl
 clear hrc hR
 go_enter Tryz.func31, Tryz.ntmps31
 go_upto_region 2 with (fail)
 generalize (((w.alloc (.cells #[.slice A p.wide.length c, .slice A' p.code.length c'] 28)).alloc (.cells #[.int .i64 (sg : Int)] 52)).alloc (.cells #[.int .u32 0] 35)).alloc (.cells #[.slice A p.wide.length c, .slice A' p.code.length c', .slice none 0 0, .slice (some ⟨w.heap.size + 1 + 1, 0, none⟩) 1 1] 143) = w4 at *
 have t0 := HO0.out.tb.cell 0
 have zt := HO0.out.tb.lt
 simp only [List.getElem?_toArray, List.getElem?_cons_succ, List.getElem?_cons_zero] at t0
 go_wp2
 clear t0 zt
 obtain ⟨w5, rfl⟩ : ∃ w5 : World, w5 = w4 := ⟨_, rfl⟩
 have HX0 := Lib.hid (show FO w w5 p sg A c A' c' (.slice none 0 0) (.slice (some ⟨w.heap.size + 1 + 1, 0, none⟩) 1 1) (preX sg sl 0) [0] from HO0.out)
 clear HO0
 generalize hvn : Value.slice (some ⟨w.heap.size + 1 + 1, 0, none⟩) 1 1 = vn at *
 have HPS := Lib.hid (fun k (hk : k = 0 ∨ k = 1) => preO_s sg sl hk)
 clear hvn
 go_loopw [24] (fun i wr => ∃ (k : Nat) (vp : Value), k ≤ 3 ∧ i = .int .i64 k ∧ Hid (FO w wr p sg A c A' c' vp vn (preX sg sl k) [0])) (fun i _ => 3 - (intOf i).toNat)
 case atStart => exact ⟨0, _, by omega, rfl, HX0⟩
 case round =>
   obtain ⟨k, vp, hk, rfl, hx⟩ := hrel
   clear HX0
   by_cases hlt : k < 3
   · have hkk : k = 0 ∨ k = 1 ∨ k = 2 := by omega
     rcases hkk with rfl | rfl | rfl
     · have hpi : ∀ w, (Instr.index 144 (.agg #[.int .i64 (sg : Int), .int .i64 ((sg : Int) / 2), .int .i64 (sl : Int)]) (.int .i64 0)).run Tryz.prog w = .ok (.int .i64 ((sg : Int))) w := fun _ => by kernel_rfl
       have hcast : ((0 : Nat) : Int) = 0 := rfl
       have HY0 := Lib.hid (show FO w wr p sg A c A' c' vp vn (preL sg sl (0 + 1) 0) [0] from hx.out)
       clear hx
       have HMM := Lib.hid (show manyP sg sl (0 + 1) = sg from rfl)
       generalize hmy : manyP sg sl (0 + 1) = my at *
       have HMY := Lib.hid hmy
       clear hmy
       obtain ⟨wo, rfl⟩ : ∃ wo : World, wo = wr := ⟨_, rfl⟩
       rw [hcast]
       go_wp2
       clear hpi hcast
       go_loopw [29] (fun i wr => ∃ (n : Nat) (vp : Value), n ≤ my ∧ i = .int .i64 n ∧ Hid (FO w wr p sg A c A' c' vp vn (preL sg sl (0 + 1) n) [0])) (fun i _ => my - (intOf i).toNat)
       case atStart => exact ⟨0, vp, Nat.zero_le _, rfl, HY0⟩
       case round =>
         obtain ⟨n, vp2, hn, rfl, hx⟩ := hrel
         clear HY0
         by_cases hnl : n < my
         · have hn0 : (0 : Int) ≤ (n : Int) := Int.natCast_nonneg _
           have hn1 : (n : Int) < (sg : Int) := by have := HMM.out; omega
           have hln := preL_len (sg := sg) (sl := sl) (k := 0 + 1) (n := n) (by omega) (by rw [HMY.out]; omega) hs hl
           have HPL : Hid (preL sg sl (0 + 1) (n + 1) = preL sg sl (0 + 1) n ++ [(⟨(((0 + 1 : Nat)) : Int), (n : Int)⟩ : PlaceV)]) := preL_s (by omega)
           generalize preL sg sl (0 + 1) n = l at *
           have HXA := Lib.hid (hx.out.keep ((Kept.refl _ wr).alloc (.cells #[.int .i64 1, .int .i64 (n : Int)] 99)))
           have q2 := hx.out.wb.cell 2
           have zq := hx.out.wb.lt
           simp only [List.getElem?_toArray, List.getElem?_cons_succ, List.getElem?_cons_zero] at q2
           have HSZ := hx.out.fr.size
           clear hx
           go_wp2_with (at_builtin
                        refine wpList_app (base := w.heap.size) _ rfl slPlaces (.tmp 36) (.tmp 41) rfl vp2 l.length (l.flatMap PlaceV.cells) rfl HXA.out.op (fun _ => True) _ 1 1 [.int .i64 1, .int .i64 (n : Int)] rfl (Reads.lit' (by simp) trivial rfl) ?_ ?_ ?_ ?_ ?_
                        · simp [Value.oneCell']
                        · omega
                        · unfold maxLen; omega
                        · simp; omega
                        intro v1 w1 hown1 hk1 hat1
                        obtain ⟨A1, c1, rfl, _⟩ := own_reads hown1
                        have HN := Lib.hid (HXA.out.putP (w1 := w1) (l' := preL sg sl (0 + 1) (n + 1)) (by rw [HPL.out, flat_snoc, List.length_append]; exact hown1) hk1)
                        have hb1 := HXA.out.wb.kept hk1 (own_blk_ne HXA.out.op HXA.out.wb (by decide))
                        have e2 := hb1.cell 2
                        have y2 := hb1.frozen 2
                        have z2 := hb1.lt
                        simp only [List.getElem?_toArray, List.getElem?_cons_succ, List.getElem?_cons_zero] at e2
                        clear hown1 hk1 hat1 hb1 q2 zq HXA HPL)
           go_roundw
           case rel => exact ⟨n + 1, _, by omega, by go_num, HN⟩
           case measure => simp [intOf]; omega
         · obtain rfl : n = my := by omega
           have HN := Lib.hid (hx.out.congr (show preL sg sl (0 + 1) n = preX sg sl (0 + 1) from by rw [← HMY.out]; exact HPS.out 0 (by omega)))
           clear hx
           have hn1 : ¬ (n : Int) < (sg : Int) := by have := HMM.out; omega
           go_wp2
           go_roundw
           case rel => exact ⟨0 + 1, vp2, by omega, by go_num, HN⟩
           case measure => simp [intOf]
     · have hpi : ∀ w, (Instr.index 144 (.agg #[.int .i64 (sg : Int), .int .i64 ((sg : Int) / 2), .int .i64 (sl : Int)]) (.int .i64 1)).run Tryz.prog w = .ok (.int .i64 ((sg : Int) / 2)) w := fun _ => by kernel_rfl
       have hcast : ((1 : Nat) : Int) = 1 := rfl
       have HY0 := Lib.hid (show FO w wr p sg A c A' c' vp vn (preL sg sl (1 + 1) 0) [0] from hx.out)
       clear hx
       have HMM := Lib.hid (show manyP sg sl (1 + 1) = sg / 2 from rfl)
       generalize hmy : manyP sg sl (1 + 1) = my at *
       have HMY := Lib.hid hmy
       clear hmy
       obtain ⟨wo, rfl⟩ : ∃ wo : World, wo = wr := ⟨_, rfl⟩
       rw [hcast]
       go_wp2
       clear hpi hcast
       go_loopw [29] (fun i wr => ∃ (n : Nat) (vp : Value), n ≤ my ∧ i = .int .i64 n ∧ Hid (FO w wr p sg A c A' c' vp vn (preL sg sl (1 + 1) n) [0])) (fun i _ => my - (intOf i).toNat)
       case atStart => exact ⟨0, vp, Nat.zero_le _, rfl, HY0⟩
       case round =>
         obtain ⟨n, vp2, hn, rfl, hx⟩ := hrel
         clear HY0
         by_cases hnl : n < my
         · have hn0 : (0 : Int) ≤ (n : Int) := Int.natCast_nonneg _
           have hn1 : (n : Int) < (sg : Int) / 2 := by have := HMM.out; omega
           have hln := preL_len (sg := sg) (sl := sl) (k := 1 + 1) (n := n) (by omega) (by rw [HMY.out]; omega) hs hl
           have HPL : Hid (preL sg sl (1 + 1) (n + 1) = preL sg sl (1 + 1) n ++ [(⟨(((1 + 1 : Nat)) : Int), (n : Int)⟩ : PlaceV)]) := preL_s (by omega)
           generalize preL sg sl (1 + 1) n = l at *
           have HXA := Lib.hid (hx.out.keep ((Kept.refl _ wr).alloc (.cells #[.int .i64 2, .int .i64 (n : Int)] 99)))
           have q2 := hx.out.wb.cell 2
           have zq := hx.out.wb.lt
           simp only [List.getElem?_toArray, List.getElem?_cons_succ, List.getElem?_cons_zero] at q2
           have HSZ := hx.out.fr.size
           clear hx
           go_wp2_with (at_builtin
                        refine wpList_app (base := w.heap.size) _ rfl slPlaces (.tmp 36) (.tmp 41) rfl vp2 l.length (l.flatMap PlaceV.cells) rfl HXA.out.op (fun _ => True) _ 1 1 [.int .i64 2, .int .i64 (n : Int)] rfl (Reads.lit' (by simp) trivial rfl) ?_ ?_ ?_ ?_ ?_
                        · simp [Value.oneCell']
                        · omega
                        · unfold maxLen; omega
                        · simp; omega
                        intro v1 w1 hown1 hk1 hat1
                        obtain ⟨A1, c1, rfl, _⟩ := own_reads hown1
                        have HN := Lib.hid (HXA.out.putP (w1 := w1) (l' := preL sg sl (1 + 1) (n + 1)) (by rw [HPL.out, flat_snoc, List.length_append]; exact hown1) hk1)
                        have hb1 := HXA.out.wb.kept hk1 (own_blk_ne HXA.out.op HXA.out.wb (by decide))
                        have e2 := hb1.cell 2
                        have y2 := hb1.frozen 2
                        have z2 := hb1.lt
                        simp only [List.getElem?_toArray, List.getElem?_cons_succ, List.getElem?_cons_zero] at e2
                        clear hown1 hk1 hat1 hb1 q2 zq HXA HPL)
           go_roundw
           case rel => exact ⟨n + 1, _, by omega, by go_num, HN⟩
           case measure => simp [intOf]; omega
         · obtain rfl : n = my := by omega
           have HN := Lib.hid (hx.out.congr (show preL sg sl (1 + 1) n = preX sg sl (1 + 1) from by rw [← HMY.out]; exact HPS.out 1 (by omega)))
           clear hx
           have hn1 : ¬ (n : Int) < (sg : Int) / 2 := by have := HMM.out; omega
           go_wp2
           go_roundw
           case rel => exact ⟨1 + 1, vp2, by omega, by go_num, HN⟩
           case measure => simp [intOf]
     · have hpi : ∀ w, (Instr.index 144 (.agg #[.int .i64 (sg : Int), .int .i64 ((sg : Int) / 2), .int .i64 (sl : Int)]) (.int .i64 2)).run Tryz.prog w = .ok (.int .i64 ((sl : Int))) w := fun _ => by kernel_rfl
       have hcast : ((2 : Nat) : Int) = 2 := rfl
       have HY0 := Lib.hid (show FO w wr p sg A c A' c' vp vn (preL sg sl (2 + 1) 0) [0] from hx.out)
       clear hx
       have HMM := Lib.hid (show manyP sg sl (2 + 1) = sl from rfl)
       generalize hmy : manyP sg sl (2 + 1) = my at *
       have HMY := Lib.hid hmy
       clear hmy
       obtain ⟨wo, rfl⟩ : ∃ wo : World, wo = wr := ⟨_, rfl⟩
       rw [hcast]
       go_wp2
       clear hpi hcast
       go_loopw [29] (fun i wr => ∃ (n : Nat) (vp : Value), n ≤ my ∧ i = .int .i64 n ∧ Hid (FO w wr p sg A c A' c' vp vn (preL sg sl (2 + 1) n) [0])) (fun i _ => my - (intOf i).toNat)
       case atStart => exact ⟨0, vp, Nat.zero_le _, rfl, HY0⟩
       case round =>
         obtain ⟨n, vp2, hn, rfl, hx⟩ := hrel
         clear HY0
         by_cases hnl : n < my
         · have hn0 : (0 : Int) ≤ (n : Int) := Int.natCast_nonneg _
           have hn1 : (n : Int) < (sl : Int) := by have := HMM.out; omega
           have hln := preL_len (sg := sg) (sl := sl) (k := 2 + 1) (n := n) (by omega) (by rw [HMY.out]; omega) hs hl
           have HPL : Hid (preL sg sl (2 + 1) (n + 1) = preL sg sl (2 + 1) n ++ [(⟨(((2 + 1 : Nat)) : Int), (n : Int)⟩ : PlaceV)]) := preL_s (by omega)
           generalize preL sg sl (2 + 1) n = l at *
           have HXA := Lib.hid (hx.out.keep ((Kept.refl _ wr).alloc (.cells #[.int .i64 3, .int .i64 (n : Int)] 99)))
           have q2 := hx.out.wb.cell 2
           have zq := hx.out.wb.lt
           simp only [List.getElem?_toArray, List.getElem?_cons_succ, List.getElem?_cons_zero] at q2
           have HSZ := hx.out.fr.size
           clear hx
           go_wp2_with (at_builtin
                        refine wpList_app (base := w.heap.size) _ rfl slPlaces (.tmp 36) (.tmp 41) rfl vp2 l.length (l.flatMap PlaceV.cells) rfl HXA.out.op (fun _ => True) _ 1 1 [.int .i64 3, .int .i64 (n : Int)] rfl (Reads.lit' (by simp) trivial rfl) ?_ ?_ ?_ ?_ ?_
                        · simp [Value.oneCell']
                        · omega
                        · unfold maxLen; omega
                        · simp; omega
                        intro v1 w1 hown1 hk1 hat1
                        obtain ⟨A1, c1, rfl, _⟩ := own_reads hown1
                        have HN := Lib.hid (HXA.out.putP (w1 := w1) (l' := preL sg sl (2 + 1) (n + 1)) (by rw [HPL.out, flat_snoc, List.length_append]; exact hown1) hk1)
                        have hb1 := HXA.out.wb.kept hk1 (own_blk_ne HXA.out.op HXA.out.wb (by decide))
                        have e2 := hb1.cell 2
                        have y2 := hb1.frozen 2
                        have z2 := hb1.lt
                        simp only [List.getElem?_toArray, List.getElem?_cons_succ, List.getElem?_cons_zero] at e2
                        clear hown1 hk1 hat1 hb1 q2 zq HXA HPL)
           go_roundw
           case rel => exact ⟨n + 1, _, by omega, by go_num, HN⟩
           case measure => simp [intOf]; omega
         · obtain rfl : n = my := by omega
           have HN := Lib.hid (hx.out.congr (show preL sg sl (2 + 1) n = preX sg sl (2 + 1) from by rw [← HMY.out]; exact preL_end sg sl))
           clear hx
           have hn1 : ¬ (n : Int) < (sl : Int) := by have := HMM.out; omega
           go_wp2
           go_roundw
           case rel => exact ⟨2 + 1, vp2, by omega, by go_num, HN⟩
           case measure => simp [intOf]
   · obtain rfl : k = 3 := by omega
     have HX := Lib.hid (show FO w wr p sg A c A' c' vp vn (placesL sg sl) (fnumsTo p.code 0) from hx.out)
     clear hx
     obtain ⟨wo, rfl⟩ : ∃ wo : World, wo = wr := ⟨_, rfl⟩
     have p1 := HX.out.pb.cell 1
     have zp := HX.out.pb.lt
     simp only [List.getElem?_toArray, List.getElem?_cons_succ, List.getElem?_cons_zero] at p1
     go_wp2
     clear p1 zp
     go_loopw [50] (fun i wr => ∃ (k : Nat) (vn : Value), k ≤ p.code.length ∧ i = .int .i64 k ∧ Hid (FO w wr p sg A c A' c' vp vn (placesL sg sl) (fnumsTo p.code k))) (fun i _ => p.code.length - (intOf i).toNat)
     case atStart => exact ⟨0, vn, Nat.zero_le _, rfl, HX⟩
     case round =>
       obtain ⟨k, vn2, hk2, rfl, hx⟩ := hrel
       clear HX
       by_cases hl2 : k < p.code.length
       · obtain ⟨i, hx2⟩ : ∃ i, p.code[k]? = some i := ⟨_, List.getElem?_eq_getElem hl2⟩
         obtain ⟨b5, o5, rfl, _, d0, d1, d2, d3, d4, d5⟩ := (HRC.out.kept hx.out.fr (fun _ _ h => h)).ins hx2
         have hb5 := cell_lt d0
         have HST : Hid (fnumsTo p.code (k + 1) = numsStep (fnumsTo p.code k) i) := fnumsTo_s hx2
         have hlen := fnumsTo_len p.code k
         have hk0 : (0 : Int) ≤ (k : Int) := Int.natCast_nonneg _
         have hk1 : (k : Int) < (p.code.length : Int) := by omega
         clear hx2
         obtain ⟨An, cn, rfl, hnl, hnr⟩ := own_reads hx.out.on
         have HNR := Lib.hid (show RdNs wr (fun b => w.heap.size ≤ b) (.slice An (fnumsTo p.code k).length cn) (fnumsTo p.code k) from ⟨An, cn, rfl, hnl, hnr.more (fun b hb => hb.1)⟩)
         clear hnr hnl
         have HX8 := Lib.hid (hx.out.keep ((Kept.refl _ wr).alloc (.cells #[.int .i64 i.op, .int .i64 i.d, .int .i64 i.a, .int .i64 i.b, .int .i64 i.c, .int .u32 (i.n : Int)] 45)))
         have HI8 := Lib.hid (Blk.new wr 45 #[.int .i64 i.op, .int .i64 i.d, .int .i64 i.a, .int .i64 i.b, .int .i64 i.c, .int .u32 (i.n : Int)])
         have HCT := Lib.hid (fun n => contains_any (fun b => w.heap.size ≤ b) (.slice An (fnumsTo p.code k).length cn) (fnumsTo p.code k) i.n ((wr.alloc (.cells #[.int .i64 i.op, .int .i64 i.d, .int .i64 i.a, .int .i64 i.b, .int .i64 i.c, .int .u32 (i.n : Int)] 45)).drewN n) (HNR.out.kept (((Kept.refl (fun _ => False) wr).alloc _).drewN n) (fun _ _ h => h)))
         have q3 := hx.out.wb.cell 3
         have zq := hx.out.wb.lt
         simp only [List.getElem?_toArray, List.getElem?_cons_succ, List.getElem?_cons_zero] at q3
         clear hx
         obtain ⟨op, id, ia, ib, ic, inn⟩ := i
         simp only at *
         by_cases e1 : op = 1
         · subst e1
           generalize hct : decide (inn ∈ fnumsTo p.code k) = ct at *
           have HCTE := Lib.hid hct
           clear hct
           go_wp2
           go_quiet (first | (go_at_call 63; refine Calls.quiet_of_same (HCT.out _)))
           have HX9 := Lib.hid (HX8.out.keep ((Kept.refl _ _).drewN nq))
           have HI9 := Lib.hid (HI8.out.kept ((Kept.refl (fun _ => False) _).drewN nq) (fun h => h))
           clear HX8 HI8 HCT HNR q3 zq d0 d1 d2 d3 d4 d5 hb5
           generalize (wr.alloc (.cells #[.int .i64 1, .int .i64 id, .int .i64 ia, .int .i64 ib, .int .i64 ic, .int .u32 (inn : Int)] 45)).drewN nq = w9 at *
           cases ct with
           | true =>
             have HN := Lib.hid (show FO w w9 p sg A c (some ⟨b5, o5, none⟩) c' vp (.slice An (fnumsTo p.code k).length cn) (placesL sg sl) (fnumsTo p.code (k + 1)) from by
               rw [HST.out]; unfold numsStep; rw [if_neg (fun h => h.2 (of_decide_eq_true HCTE.out))]; exact HX9.out)
             go_wp2
             go_roundw
             case rel => exact ⟨k + 1, _, by omega, by go_num, HN⟩
             case measure => simp [intOf]; omega
           | false =>
             have HE : Hid (fnumsTo p.code (k + 1) = fnumsTo p.code k ++ [inn]) := by
               show _ = _
               rw [HST.out]; unfold numsStep; rw [if_pos ⟨rfl, of_decide_eq_false HCTE.out⟩]
             have q3 := HX9.out.wb.cell 3
             have zq := HX9.out.wb.lt
             have x5 := HI9.out.cell 5
             have zx := HI9.out.lt
             simp only [List.getElem?_toArray, List.getElem?_cons_succ, List.getElem?_cons_zero] at q3 x5
             generalize fnumsTo p.code k = nk at *
             have HXB := Lib.hid (HX9.out.keep (((Kept.refl _ w9).alloc (.cells #[.int .u32 (inn : Int)] 35)).drew))
             have HIB := Lib.hid (HI9.out.kept (((Kept.refl (fun _ => False) w9).alloc (.cells #[.int .u32 (inn : Int)] 35)).drew) (fun h => h))
             go_wp2
             go_region_law ((refine step_app (base := w.heap.size) (by rfl) slU32s (.tmp 71) (.tmp 74) (by rfl) (.slice An nk.length cn) nk.length _ (by rfl) HXB.out.on (fun _ => True) _ 1 1 _ (by rfl) (Reads.lit' (by simp) trivial rfl) (by simp [Value.oneCell']) (by omega) (by unfold maxLen; omega) (by simp; omega) ?_; intro v1 w1 hown1 hk1 hat1; obtain ⟨A1, c1, rfl, _⟩ := own_reads hown1; have HN := Lib.hid (HXB.out.putN (w1 := w1) (ns' := fnumsTo p.code (k + 1)) (by rw [HE.out, List.length_append, List.map_append]; exact hown1) hk1); have hb1 := HXB.out.wb.kept hk1 (own_blk_ne HXB.out.on HXB.out.wb (by decide)); have z3 := hb1.cell 3; have y3 := hb1.frozen 3; have zz := hb1.lt; simp only [List.getElem?_toArray, List.getElem?_cons_succ, List.getElem?_cons_zero] at z3; clear hown1 hk1 hat1 hb1))
             all_goals (go_wp2; go_roundw)
             all_goals first | exact ⟨k + 1, _, by omega, by go_num, HN⟩ | exact ⟨k + 1, by omega, by omega, _, HN⟩ | (simp [intOf]; omega)
         · have e1' : (op == 1) = false := by simpa using e1
           have HN := Lib.hid (show fnumsTo p.code (k + 1) = fnumsTo p.code k from by rw [HST.out]; unfold numsStep; rw [if_neg (fun h => e1 h.1)])
           clear e1
           go_wp2
           go_quiet (fail)
           have HX9 := Lib.hid (show FO w _ p sg A c (some ⟨b5, o5, none⟩) c' vp (.slice An (fnumsTo p.code k).length cn) (placesL sg sl) (fnumsTo p.code (k + 1)) from by rw [HN.out]; exact HX8.out.keep ((Kept.refl _ _).drewN nq))
           go_wp2
           go_roundw
           case rel => exact ⟨k + 1, _, by omega, by go_num, HX9⟩
           case measure => simp [intOf]; omega
       · obtain rfl : k = p.code.length := by omega
         obtain ⟨Ap, cp, rfl, hpl1, hpr⟩ := own_reads hx.out.op
         obtain ⟨An, cn, rfl, hnl1, hnr⟩ := own_reads hx.out.on
         have HFIN := Lib.hid (show FWd wr (w.heap.size + 1 + 1 + 1) (fun b => b < wr.heap.size) p sg sl (fnumsTo p.code p.code.length) A c A' c' (.slice Ap (placesL sg sl).length cp) An cn from by
           have hz := hx.out.fr.size
           refine ⟨hx.out.wb, ?_, ⟨Ap, cp, rfl, hpl1, hpr.more (fun b hb => (own_lt hx.out.op hb.2).2)⟩, ⟨An, cn, rfl, hnl1, hnr.more (fun b hb => (own_lt hx.out.on hb.2).2)⟩⟩
           have := HPG.out.kept hx.out.fr (fun _ _ h => h)
           obtain ⟨vw, vc, e, h1, h2⟩ := this
           refine ⟨vw, vc, e, ?_, ?_⟩
           · obtain ⟨A1, c1, e1, hl1, hr1⟩ := h1
             exact ⟨A1, c1, e1, hl1, hr1.more (fun b hb => by have := HRR.out b hb; omega)⟩
           · obtain ⟨A1, c1, e1, hl1, hr1, ho1⟩ := h2
             exact ⟨A1, c1, e1, hl1, hr1.more (fun b hb => by have := HRR.out b hb; omega), ho1⟩)
         have HF := Lib.hid hx.out.fr
         clear hx hpr hnr
         go_wp2
         go_ret
         exact ⟨_, _, _, _, _, _, _, _, _, rfl, HFIN.out, HF.out, by omega⟩
end Go.Proofs.YtodmkjeankbieaaGreatDoor


namespace Go.Proofs.YtodmkjeankbieaaGreatDoor
open Go.RowKit Go.Sort Go.Maps

def AtV (w : World) (v : Value) : Option FS → Prop
 | none => v = .map none
 | some S => ∃ b, v = .map (some b) ∧ FSet w b 2400 S
theorem SetAt.ne_blk {P : Program} {K E : TypeId} {α : Type} {ok : α → Prop} {lit : α → Lit} {w : World} {b n : Nat} {S : α → Prop} (h : SetAt P K E ok lit w b n S) {g : Nat} {e : TypeId} {cs : Array Value} (hg : Blk w g e cs) : b ≠ g := by
 rintro rfl
 obtain ⟨D, ⟨es, clock, hb, _⟩, _⟩ := h
 unfold Blk at hg
 rw [hb] at hg
 cases hg
section
variable {w w' : World} {v : Value} {o : Option FS}
theorem AtV.kept {X : Nat → Prop} (h : AtV w v o) (hk : Kept X w w') (hx : ∀ b S, FSet w b 2400 S → ¬ X b) : AtV w' v o := by
 cases o with
 | none => exact h
 | some S => obtain ⟨b, e, hs⟩ := h; exact ⟨b, e, hs.kept hk (hx b S hs)⟩
theorem AtV.fr (h : AtV w v o) (hk : Fr w w') : AtV w' v o := h.kept hk (fun _ _ _ h => h)
end

theorem Reads.both {w : World} {R : Nat → Prop} {size n : Nat} {A : Option Addr} {xs : List Value} (h : Reads w R size A n xs) (hs : 0 < size) : Reads w (fun b => R b ∧ b < w.heap.size) size A n xs := by
 obtain ⟨hl, h2⟩ := h
 refine ⟨hl, fun h0 => ?_⟩
 obtain ⟨b, off, hA, hR, hc⟩ := h2 h0
 refine ⟨b, off, hA, ⟨hR, ?_⟩, hc⟩
 have h1 : 0 < xs.length := by rw [hl]; exact Nat.mul_pos (by omega) hs
 exact cell_lt (hc 0 xs[0] (List.getElem?_eq_getElem h1))
theorem RdI.both {w : World} {R : Nat → Prop} {v : Value} {l : List Int} (h : RdI w R v l) : RdI w (fun b => R b ∧ b < w.heap.size) v l := let ⟨A, c, e, hr⟩ := h; ⟨A, c, e, hr.both (by decide)⟩
def wkVals (wk : List Nat) : List Value := wk.map fun (k : Nat) => Value.int .i64 (k : Int)
theorem wkVals_app (wk : List Nat) (n : Nat) : wkVals (wk ++ [n]) = wkVals wk ++ [Value.int .i64 (n : Int)] := by unfold wkVals; simp

structure AllMem (w wr : World) (cl : Array Value) (g0 L : Nat) (vs : Nat → Value) (A : Nat → Option FS) (qv : Value) (wk : List Nat) : Prop where
 ob : Blk wr g0 133 (mkS L vs)
 el : ∀ k, k < L → AtV wr (vs k) (A k)
 lb : Blk wr w.heap.size 55 cl
 qu : QRow wr w.heap.size 3 qv (wkVals wk)
 fr : Fr w wr
 g0 : w.heap.size < g0
section
variable {w wr w' : World} {cl : Array Value} {g0 L : Nat} {vs : Nat → Value} {A : Nat → Option FS} {qv : Value} {wk : List Nat}
theorem AllMem.keep (h : AllMem w wr cl g0 L vs A qv wk) (hk : Fr wr w') : AllMem w w' cl g0 L vs A qv wk :=
 ⟨h.ob.kept hk (fun h => h), fun k hkl => (h.el k hkl).fr hk, h.lb.kept hk (fun h => h), h.qu.fr hk, h.fr.trans hk, h.g0⟩
theorem AllMem.put (h : AllMem w wr cl g0 L vs A qv wk) {n : Nat} (hn : n < L) {v : Value} {S : FS} (hv : AtV wr v (some S)) : AllMem w (wr.setCell ⟨g0, n, none⟩ v) cl g0 L (fun s => if s = n then v else vs s) (setA A n S) qv wk := by
 have hk : Kept (fun b => b = g0) wr (wr.setCell ⟨g0, n, none⟩ v) := (Kept.refl (fun b => b = g0) wr).setCell (p := ⟨g0, n, none⟩) (fun _ => rfl) _
 refine ⟨?_, fun k hkl => ?_, h.lb.kept hk (by have := h.g0; show ¬ w.heap.size = g0; omega), h.qu.kept hk (fun g hg e => h.qu.blk_ne h.ob (by decide) (e ▸ hg)), h.fr.then hk (fun i hi e => by have := h.g0; omega), h.g0⟩
 · have := h.ob.set_ n v
   rwa [mkS_set] at this
 · by_cases e : k = n
   · subst e
     rw [if_pos rfl, setA_same]
     exact hv.kept hk (fun b S' hs e => hs.ne_blk h.ob e)
   · rw [if_neg e, setA_ne e]
     exact (h.el k hkl).kept hk (fun b S' hs e => hs.ne_blk h.ob e)
theorem AllMem.push (h : AllMem w wr cl g0 L vs A qv wk) {n : Nat} {qv' : Value} (hq : QRow w' w.heap.size 3 qv' (wkVals wk ++ [Value.int .i64 (n : Int)])) (hk : Kept (fun k => qv.ownBlock = some k) wr w') : AllMem w w' cl g0 L vs A qv' (wk ++ [n]) := by
 obtain ⟨gq, oq, cq, curq, rfl, hb, hB, _⟩ := id h.qu
 have e : ∀ k, (Value.slice (some ⟨gq, oq, none⟩) (wkVals wk).length cq).ownBlock = some k ↔ k = gq := fun k => by simp [Value.ownBlock, eq_comm]
 refine ⟨h.ob.kept hk (fun hc => h.qu.blk_ne h.ob (by decide) hc), fun k hkl => (h.el k hkl).kept hk (fun b S' hs hc => ?_), h.lb.kept hk (fun hc => h.qu.blk_ne h.lb (by decide) hc), ?_, h.fr.then hk (fun i hi hc => ?_), h.g0⟩
 · rw [e] at hc; exact hs.ne_blk hB hc
 · rw [wkVals_app]; exact hq
 · rw [e] at hc; omega
theorem AllMem.set_put (h : AllMem w wr cl g0 L vs A qv wk) {n b m : Nat} {v : Value} {S : FS} (hs : FSet wr b m S) : FSet (wr.setCell ⟨g0, n, none⟩ v) b m S :=
 hs.kept ((Kept.refl (fun b => b = g0) wr).setCell (p := ⟨g0, n, none⟩) (fun _ => rfl) _) (fun e => hs.ne_blk h.ob e)
theorem AllMem.set_push (h : AllMem w wr cl g0 L vs A qv wk) {b m : Nat} {S : FS} (hs : FSet wr b m S) (hk : Kept (fun k => qv.ownBlock = some k) wr w') : FSet w' b m S := by
 obtain ⟨gq, oq, cq, curq, rfl, hb, hB, _⟩ := id h.qu
 refine hs.kept hk (fun hc => ?_)
 have : b = gq := by simpa [Value.ownBlock, eq_comm] using hc
 exact hs.ne_blk hB this
theorem AllMem.popped {k : Nat} {qv' : Value} (h : AllMem w wr cl g0 L vs A qv (k :: wk)) (hq : QRow wr w.heap.size 3 qv' (wkVals wk)) : AllMem w wr cl g0 L vs A qv' wk := ⟨h.ob, h.el, h.lb, hq, h.fr, h.g0⟩
end

theorem rowCnd {p : Pg} {sg sl : Nat} {l : Pd} {lv : List RwV} {k : Nat} {x : RwV} (hm : mayL p sg l = true) (hsl : l.slots = (sl : Int)) (hok : ∀ i ∈ p.code, i.n < 4294967296) (hrows : l.rows = lv.map (·.r)) (hmv : ∀ x ∈ lv, (∀ m ∈ x.r.before, m.n < 4294967296) ∧ ∀ m ∈ x.r.after, m.n < 4294967296)
   (hk : k < p.code.length) (hx : lv[k]? = some x) : RowCnd p sg sl (inAt p.code k) x.r := by
 obtain ⟨h1, h2, h3, h4, h5⟩ := mayL_facts hm
 have hr := mayL_row hm hk
 have e : rwAt l.rows k = x.r := by
   rw [rwAt_get (by omega), ← Option.some_inj, ← List.getElem?_eq_getElem, hrows, List.getElem?_map, hx]
   rfl
 rw [e, hsl] at hr
 have hmem := inAt_mem hk
 have hxm := hmv x (List.mem_of_getElem? hx)
 exact ⟨insOk (mayB_ins h1 hmem), hmem, hr, hok _ hmem, hxm.1, hxm.2⟩
theorem rwAt_of {l : Pd} {lv : List RwV} {k : Nat} {x : RwV} (hrows : l.rows = lv.map (·.r)) (hx : lv[k]? = some x) : rwAt l.rows k = x.r := by
 have hk : k < lv.length := (List.getElem?_eq_some_iff.1 hx).1
 rw [rwAt_get (by rw [hrows]; simpa using hk), ← Option.some_inj, ← List.getElem?_eq_getElem, hrows, List.getElem?_map, hx]
 rfl

def AllIn (p : Pg) (sg sl : Nat) (A : Nat → Option FS) : Prop := ∀ k S, A k = some S → InU p sg sl S
theorem AllIn.put {p : Pg} {sg sl : Nat} {A : Nat → Option FS} (h : AllIn p sg sl A) {n : Nat} {S : FS} (hS : InU p sg sl S) : AllIn p sg sl (setA A n S) := by
 intro k S' hk
 by_cases e : k = n
 · subst e; rw [setA_same] at hk; cases hk; exact hS
 · rw [setA_ne e] at hk; exact h k S' hk
theorem thru_in {p : Pg} {sg sl : Nat} {l : Pd} {k : Nat} {S : FS} (hm : mayL p sg l = true) (hsl : l.slots = (sl : Int)) (hk : k < p.code.length) (hu : InU p sg sl S) : InU p sg sl (thru p l k S) := by
 obtain ⟨h1, h2, h3, h4, h5⟩ := mayL_facts hm
 have hr := mayL_row hm hk
 rw [hsl] at hr
 have hi := insOk (mayB_ins h1 (inAt_mem hk))
 obtain ⟨r1, r2, r3, _⟩ := rwB_facts hr hi.kn
 refine movesF_in _ ?_ r2
 unfold insF
 split
 · rename_i hg
   exact giveF_in (movesF_in _ hu r1) hi hg (r3 hg) (inAt_mem hk)
 · exact movesF_in _ hu r1

def AllPost (w : World) (p : Pg) (sg : Int) (l : Pd) (e : Ending) (w' : World) : Prop :=
 Fr w w' ∧ ∃ (g0 : Nat) (vs : Nat → Value) (ok : Bool), e = .returned (.tuple #[.slice (some ⟨g0, 0, none⟩) p.code.length p.code.length, .bool ok]) ∧ w.heap.size ≤ g0 ∧ Blk w' g0 133 (mkS p.code.length vs) ∧
   (∀ k, k < p.code.length → (Come p.code k → AtV w' (vs k) (some (Kn p sg l k))) ∧ (¬ Come p.code k → vs k = .map none)) ∧ (ok = true ↔ Taken p sg l)
def TakenTo (p : Pg) (sg : Int) (l : Pd) (k : Nat) : Prop := ∀ j, j < k → Come p.code j → tookF p (Kn p sg l j) (inAt p.code j) (rwAt l.rows j)
theorem takenTo_all {p : Pg} {sg : Int} {l : Pd} (h0 : 0 < p.code.length) : TakenTo p sg l p.code.length ↔ Taken p sg l :=
 ⟨fun h k hk => h k (hk.lt h0) hk, fun h k _ hk => h k hk⟩
theorem takenTo_s {p : Pg} {sg : Int} {l : Pd} {k : Nat} (hk : Come p.code k) : TakenTo p sg l (k + 1) ↔ (TakenTo p sg l k ∧ tookF p (Kn p sg l k) (inAt p.code k) (rwAt l.rows k)) := by
 constructor
 · intro h; exact ⟨fun j hj => h j (by omega), h k (by omega) hk⟩
 · rintro ⟨h1, h2⟩ j hj hc
   by_cases e : j = k
   · subst e; exact h2
   · exact h1 j (by omega) hc
theorem takenTo_no {p : Pg} {sg : Int} {l : Pd} {k : Nat} (hk : ¬ Come p.code k) : TakenTo p sg l (k + 1) ↔ TakenTo p sg l k := by
 constructor
 · intro h j hj; exact h j (by omega)
 · intro h j hj hc
   by_cases e : j = k
   · subst e; exact absurd hc hk
   · exact h j (by omega) hc
end Go.Proofs.YtodmkjeankbieaaGreatDoor

