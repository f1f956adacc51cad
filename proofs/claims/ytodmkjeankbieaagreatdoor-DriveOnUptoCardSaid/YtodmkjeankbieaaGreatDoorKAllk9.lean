/- Texts of this claim, packed. -/
import Derived.Test.YtodmkjeankbieaaGreatDoorKAllk8
set_option linter.all false
namespace Go.Proofs.YtodmkjeankbieaaGreatDoor
open Go.RowKit Go.Sort Go.Shelf

def MakePost (w : World) (p : Pg) (sg : Int) (e : Ending) (w' : World) : Prop :=
 Fr w w' ∧ ((mayB p = false ∧ e = .returned (.tuple #[.slice none 0 0, .int .i64 2])) ∨
   (mayB p = true ∧ (sg < 0 ∨ 16 < sg ∨ sg % 2 ≠ 0) ∧ e = .returned (.tuple #[.slice none 0 0, .int .i64 3])) ∨
   (mayB p = true ∧ 0 ≤ sg ∧ sg ≤ 16 ∧ sg % 2 = 0 ∧ ∃ g0, e = .returned (.tuple #[.slice (some ⟨g0, 0, none⟩) p.wide.length p.wide.length, .int .i64 0]) ∧ w.heap.size ≤ g0 ∧ Blk w' g0 99 (mkP p.wide.length (colF p sg.toNat))))
def rangeV (k : Nat) : List Value := (List.range k).map fun (t : Nat) => Value.int .i64 (t : Int)
theorem rangeV_s (k : Nat) : rangeV (k + 1) = rangeV k ++ [Value.int .i64 (k : Int)] := by unfold rangeV; rw [List.range_succ, List.map_append]; rfl
theorem holds_range {w : World} {base W0 : Nat} {v : Value} (h : w.ownsRow base 3 1 v (W0 + 1) (rangeV (W0 + 1))) : ∃ blk cap, v = .slice (some ⟨blk, 0, none⟩) (W0 + 1) cap ∧ base ≤ blk ∧ blk < w.heap.size ∧ Go.Sort.Holds (encF (n := W0 + 1)) w blk 0 (Array.ofFn fun i => i) := by
 obtain ⟨hl, h2⟩ := h
 rcases h2 with ⟨h0, _⟩ | ⟨g, cap, cur, rfl, hg, hh, hnc, hcm, hcs, ht⟩
 · omega
 · have hb : Blk w g 3 cur := hh
   refine ⟨g, cap, rfl, hg, hb.lt, fun j hj => ?_⟩
   have hj' : j < W0 + 1 := by simpa using hj
   refine ⟨?_, hb.frozen _⟩
   rw [Nat.zero_add, hb.cell]
   have h3 : (rangeV (W0 + 1))[j]? = some (.int .i64 (j : Int)) := by unfold rangeV; simp [List.getElem?_range hj']
   rw [← ht, List.getElem?_take] at h3
   split at h3
   · have h4 : cur[j]? = some (.int .i64 (j : Int)) := by simpa using h3
     rw [h4, getElem!_pos _ j hj]
     simp [encF]
   · cases h3
theorem ord_reads {w : World} {M : List (List Bool)} {W0 blk cap n : Nat} (h0 : Go.Sort.Holds (encF (n := W0 + 1)) w blk 0 (Array.ofFn fun i => i)) :
   RdI ((putRow encF w blk 0 (ordA M W0)).drewN n) (fun b => b = blk) (.slice (some ⟨blk, 0, none⟩) (W0 + 1) cap) ((ordA M W0).toList.map fun x => ((x.val : Nat) : Int)) := by
 have hsz := ordA_size M W0
 have hH := holds_putRow encF w blk 0 _ (ordA M W0) h0 (by rw [hsz]; simp)
 have hlen : ((ordA M W0).toList.map fun x => ((x.val : Nat) : Int)).length = W0 + 1 := by simp [hsz]
 refine ⟨some ⟨blk, 0, none⟩, cap, by rw [hlen], by rw [hlen]; simp [hsz], fun _ => ⟨blk, 0, rfl, rfl, fun j u hu => ?_⟩⟩
 have hj : j < (ordA M W0).size := by
   have := (List.getElem?_eq_some_iff.1 hu).1
   simpa using this
 have h1 := (hH j hj).1
 have h2 : ((putRow encF w blk 0 (ordA M W0)).drewN n).cell? ⟨blk, 0 + j, none⟩ = (putRow encF w blk 0 (ordA M W0)).cell? ⟨blk, 0 + j, none⟩ := rfl
 rw [h2, h1, getElem!_pos _ j hj, ← hu]
 simp [encF, hj]
theorem sortAll_any (R : Nat → Prop) (bm bn blk cap W0 : Nat) (v : Value) (M : List (List Bool)) (w : World) (hm : Blk w bm 128 #[.func (.func 56) #[] #[.pointer (some ⟨bn, 0, none⟩)]]) (hb : Blk w bn 39 #[v]) (h : RdM w R v M)
   (hM : M.length = W0 + 1) (hrow : ∀ r ∈ M, r.length ≤ 100) (hR : ¬ R blk) (h1 : bm ≠ blk) (h2 : bn ≠ blk) (hH : Go.Sort.Holds encF w blk 0 (Array.ofFn fun (i : Fin (W0 + 1)) => i)) (hsz : W0 + 1 ≤ 12) (n : Nat) (hn : n = W0 + 1) :
   Calls Tryz.prog 57 #[.slice (some ⟨blk, 0, none⟩) n cap, .func (.func 58) #[] #[.pointer (some ⟨bm, 0, none⟩)]] w fun e w' => e = .returned (.tuple #[]) ∧ ∃ n, w' = (putRow encF w blk 0 (ordA M W0)).drewN n := by
 subst hn
 have := sortStable_any R bm bn blk cap W0 v M (Array.ofFn fun (i : Fin (W0 + 1)) => i) w hm hb h hM hrow hR h1 h2 hH (by simpa using hsz)
 rw [Array.size_ofFn] at this
 exact this
theorem ordL_eq {p : Pg} {W0 : Nat} (h : p.wide.length = W0 + 1) : ((ordA (nearM p) W0).toList.map fun x => ((x.val : Nat) : Int)) = (ordL p).map fun (t : Nat) => (t : Int) := by
 unfold ordL
 rw [h]
 simp
theorem ord_reads2 {w : World} {p : Pg} {W0 blk cap n : Nat} (hW : p.wide.length = W0 + 1) (h0 : Go.Sort.Holds (encF (n := W0 + 1)) w blk 0 (Array.ofFn fun i => i)) :
   RdI ((putRow encF w blk 0 (ordA (nearM p) W0)).drewN n) (fun b => b = blk) (.slice (some ⟨blk, 0, none⟩) p.wide.length cap) ((ordL p).map fun (t : Nat) => (t : Int)) := by
 rw [← ordL_eq hW, hW]
 exact ord_reads h0

structure CmMem (w wr : World) (p : Pg) (vw vc : Value) (bn bs g0 : Nat) (R : Nat → Prop) (vn : Value) (cap : Nat) (blk : Nat) (o : Nat → PlaceV) : Prop where
 pb : Blk wr w.heap.size 28 #[vw, vc]
 nb : Blk wr bn 39 #[vn]
 rm : RdM wr R vn (nearM p)
 ord : RdI wr (fun b => b = blk) (.slice (some ⟨blk, 0, none⟩) p.wide.length cap) ((ordL p).map fun (t : Nat) => (t : Int))
 ob : Blk wr g0 99 (mkP p.wide.length o)
 fr : Fr w wr
 hR : ∀ b, R b → b < g0
 lt : bn < g0 ∧ blk < g0 ∧ w.heap.size < bn
section
variable {w wr w' : World} {p : Pg} {vw vc vn : Value} {bn bs g0 cap blk : Nat} {R : Nat → Prop} {o : Nat → PlaceV}
theorem CmMem.keep (h : CmMem w wr p vw vc bn bs g0 R vn cap blk o) (hk : Fr wr w') : CmMem w w' p vw vc bn bs g0 R vn cap blk o :=
 ⟨h.pb.kept hk (fun h => h), h.nb.kept hk (fun h => h), h.rm.kept hk (fun _ _ h => h), h.ord.kept hk (fun _ _ h => h), h.ob.kept hk (fun h => h), h.fr.trans hk, h.hR, h.lt⟩
theorem CmMem.ordc (h : CmMem w wr p vw vc bn bs g0 R vn cap blk o) {j t : Nat} (hj : (ordL p)[j]? = some t) : wr.cell? ⟨blk, j, none⟩ = some (.int .i64 (t : Int)) := by
 obtain ⟨b, off, c, e, _, _, hc⟩ := h.ord.at_ (k := j) (x := (t : Int)) (by rw [List.getElem?_map, hj]; rfl)
 simp only [Value.slice.injEq, Option.some.injEq, Addr.mk.injEq, and_true] at e
 obtain ⟨⟨rfl, rfl⟩, _⟩ := e
 rw [Nat.zero_add] at hc
 exact hc
theorem CmMem.put (h : CmMem w wr p vw vc bn bs g0 R vn cap blk o) (t : Nat) (a : PlaceV) : CmMem w ((wr.setCell ⟨g0, t * 2, none⟩ (.int .i64 a.k)).setCell ⟨g0, t * 2 + 1, none⟩ (.int .i64 a.n)) p vw vc bn bs g0 R vn cap blk (updP o t a) := by
 have hk : Kept (fun b => b = g0) wr ((wr.setCell ⟨g0, t * 2, none⟩ (.int .i64 a.k)).setCell ⟨g0, t * 2 + 1, none⟩ (.int .i64 a.n)) := ((Kept.refl (fun b => b = g0) wr).setCell (p := ⟨g0, t * 2, none⟩) (fun _ => rfl) _).setCell (p := ⟨g0, t * 2 + 1, none⟩) (fun _ => rfl) _
 obtain ⟨l1, l2, l3⟩ := h.lt
 exact ⟨h.pb.kept hk (by omega), h.nb.kept hk (by omega), h.rm.kept hk (fun b hb e => by have := h.hR b hb; omega), h.ord.kept hk (fun b hb e => by omega), h.ob.pset t a, h.fr.then hk (fun i hi e => by omega), h.hR, h.lt⟩
end
theorem nearM_row {p : Pg} {t : Nat} (ht : t < p.wide.length) : (nearM p)[t]? = some ((List.range p.wide.length).map (nearB p.code t)) := by
 unfold nearM
 simp [List.getElem?_range ht]

set_option maxHeartbeats 8000000 in
set_option maxRecDepth 100000 in
theorem make_any (R : Nat → Prop) (v : Value) (p : Pg) (sg : Int) (w : World) (h : RdPg w R v p) : Calls Tryz.prog 29 #[v, .int .i64 sg] w (MakePost w p sg) := by
 have H := Lib.hid h
 obtain ⟨vw, vc, rfl, ⟨A, c, rfl, hl, hr⟩, ⟨A', c', rfl, hl', hr', ho'⟩⟩ := h
 unfold maxLen at hl hl'
 clear hr hr' ho' hl'
 have B0 := Lib.hid (Blk.new w 28 #[.slice A p.wide.length c, .slice A' p.code.length c'])
 have F0 := Lib.hid (show Fr w (w.alloc (.cells #[.slice A p.wide.length c, .slice A' p.code.length c'] 28)) from (Kept.refl _ w).alloc _)
 have HN := Lib.hid (fun w2 (hf : Fr w w2) => nearOf_any R _ p w2 (H.out.kept hf (fun _ _ h => h)))
 go_enter Tryz.func29, Tryz.ntmps29
 go_wp2_with fail
 refine (HN.out _ F0.out).mono ?_
 rintro e w1 ⟨f1, he⟩
 rcases he with ⟨hm, rfl⟩ | ⟨hm, gn, rfl, hrm⟩
 · have HF := Lib.hid (F0.out.trans f1)
   have HM := Lib.hid hm
   clear hm f1
   go_wp2
   go_ret2
   exact ⟨HF.out.alloc _, Or.inl ⟨HM.out, rfl⟩⟩
 · have HF := Lib.hid (F0.out.trans f1)
   have HM := Lib.hid hm
   have HB1 := Lib.hid (B0.out.kept f1 (fun h => h))
   have HRM := Lib.hid hrm.old
   obtain ⟨l1, l2, l3, l4⟩ := mayB_len hm
   clear hm f1 hrm HN
   by_cases hs : sg < 0 ∨ 16 < sg ∨ sg % 2 ≠ 0
   · have HS := Lib.hid hs
     by_cases h0 : sg < 0
     · clear hs
       go_wp2
       go_ret2
       exact ⟨HF.out.alloc _, Or.inr (Or.inl ⟨HM.out, HS.out, rfl⟩)⟩
     · by_cases h1 : 16 < sg
       · clear hs
         go_wp2
         go_ret2
         exact ⟨HF.out.alloc _, Or.inr (Or.inl ⟨HM.out, HS.out, rfl⟩)⟩
       · have h2 : sg.tmod 2 = 1 := by rw [Int.tmod_eq_emod_of_nonneg (by omega)]; omega
         clear hs
         go_wp2
         go_ret2
         exact ⟨HF.out.alloc _, Or.inr (Or.inl ⟨HM.out, HS.out, rfl⟩)⟩
   · obtain ⟨s, rfl⟩ : ∃ s : Nat, sg = (s : Int) := ⟨sg.toNat, by omega⟩
     have hs1 : s ≤ 16 := by omega
     have hs2 : ((s : Int)).tmod 2 = 0 := by rw [Int.tmod_eq_emod_of_nonneg (by omega)]; omega
     have HSE := Lib.hid (show (s : Int) % 2 = 0 by omega)
     have hn0 : ¬ (s : Int) < 0 := by omega
     have hn1 : ¬ (16 : Int) < (s : Int) := by omega
     have hst := fun (a : Addr) (m : Mode) (x : Value) (w : World) => run_store Tryz.prog w a (.func (.func 56) #[] #[x]) m rfl
     have q0 := HB1.out.cell 0
     have z0 := HB1.out.lt
     simp only [List.getElem?_toArray, List.getElem?_cons_succ, List.getElem?_cons_zero] at q0
     have hzw := HF.out.size
     obtain ⟨wq, hwq⟩ : ∃ wq : World, wq = (w1.alloc (.cells #[.slice (some ⟨gn, 0, none⟩) p.wide.length p.wide.length] 39)).alloc (.cells #[.func (.func 56) #[] #[.pointer (some ⟨w1.heap.size, 0, none⟩)]] 128) := ⟨_, rfl⟩
     have HWQ := Lib.hid hwq
     have FQ : Hid (Fr w1 wq) := by show Fr _ _; rw [hwq]; exact ((Kept.refl _ w1).alloc _).alloc _
     have BN := Lib.hid (show Blk wq w1.heap.size 39 #[.slice (some ⟨gn, 0, none⟩) p.wide.length p.wide.length] from by rw [hwq]; exact (Blk.new w1 _ _).alloc _)
     have BM := Lib.hid (show Blk wq (w1.heap.size + 1) 128 #[.func (.func 56) #[] #[.pointer (some ⟨w1.heap.size, 0, none⟩)]] from by
       rw [hwq]
       have := Blk.new (w1.alloc (.cells #[.slice (some ⟨gn, 0, none⟩) p.wide.length p.wide.length] 39)) 128 #[.func (.func 56) #[] #[.pointer (some ⟨w1.heap.size, 0, none⟩)]]
       simpa using this)
     have hzq : wq.heap.size = w1.heap.size + 2 := by rw [hwq]; simp
     have HORD0 : Hid (wq.ownsRow wq.heap.size 3 1 (.slice none 0 0) 0 (rangeV 0)) := World.ownsRow_nil _ _ _ _
     have HFQ0 := Lib.hid (Kept.refl (fun _ => False) wq)
     clear hs hwq
     go_wp2
     rw [← HWQ.out]
     go_loopw [9, 46] (fun ov i wr => ∃ k : Nat, k ≤ p.wide.length ∧ i = .int .i64 k ∧ Hid (wr.ownsRow wq.heap.size 3 1 ov k (rangeV k)) ∧ Hid (Fr wq wr)) (fun _ i _ => p.wide.length - (intOf i).toNat)
     case atStart => exact ⟨0, Nat.zero_le _, rfl, HORD0, HFQ0⟩
     case round =>
       obtain ⟨k, hk, rfl, ho, hf⟩ := hrel
       clear HORD0 HFQ0 q0
       by_cases hlt : k < p.wide.length
       · have hsz := hf.out.size
         have hk1 : (k : Int) < (p.wide.length : Int) := by omega
         have hF2 := Lib.hid ((Kept.refl (fun _ => False) wr).alloc (.cells #[.int .i64 (k : Int)] 3))
         go_wp2_with (first
           | (at_builtin
              refine wpList_app (base := wq.heap.size) _ rfl slInt' (.tmp 49) (.tmp 51) rfl u9 _ _ rfl (World.ownsRow.alloc ho.out _) (fun _ => True) _ 1 1 [.int .i64 (k : Int)] rfl (Reads.lit' (by simp) trivial rfl) ?_ ?_ ?_ ?_ ?_
              · simp [Value.oneCell']
              · omega
              · unfold maxLen; omega
              · simp; omega
              intro v7 w7 hown7 hk7 _
              have HO7 := Lib.hid (show w7.ownsRow wq.heap.size 3 1 v7 (k + 1) (rangeV (k + 1)) from by rw [rangeV_s]; exact hown7)
              have HF7 := Lib.hid ((hf.out.trans hF2.out).app (World.ownsRow.alloc ho.out _) hk7)
              clear hown7 hk7 hF2)
           | go_in)
         go_roundw
         case rel => exact ⟨k + 1, by omega, by go_num, HO7, HF7⟩
         case measure => simp [intOf]; omega
       · obtain rfl : k = p.wide.length := by omega
         obtain ⟨W0, hW0⟩ : ∃ W0, p.wide.length = W0 + 1 := ⟨p.wide.length - 1, by omega⟩
         have ho' := ho.out
         rw [hW0] at ho'
         obtain ⟨blk, cap, hv, hblk, hblt, hH⟩ := holds_range ho'
         rw [← hW0] at hv
         subst hv
         have HFR := Lib.hid (HF.out.trans (FQ.out.trans hf.out))
         have FQR := Lib.hid (FQ.out.trans hf.out)
         have hne1 : w1.heap.size + 1 ≠ blk := by omega
         have hne2 : w1.heap.size ≠ blk := by omega
         have HSRT := Lib.hid (sortAll_any _ (w1.heap.size + 1) w1.heap.size blk cap W0 _ (nearM p) wr (BM.out.kept hf.out (fun h => h)) (BN.out.kept hf.out (fun h => h)) (HRM.out.kept FQR.out (fun _ _ h => h)) (by unfold nearM; simp [hW0])
           (fun r hr => by unfold nearM at hr; obtain ⟨x, _, rfl⟩ := List.mem_map.1 hr; simp; omega) (fun hc => by have := hc.2; omega) hne1 hne2 hH (by omega) p.wide.length hW0)
         have HORD := Lib.hid (fun n => ord_reads2 (cap := cap) (n := n) hW0 hH)
         clear ho ho' hH hW0
         have HZB := Lib.hid hblt
         go_wp2_with fail
         refine HSRT.out.mono ?_
         rintro e w2 ⟨rfl, q, hw2⟩
         have hkb : Kept (fun k => k = blk) wr w2 := by rw [hw2]; exact (kept_putRow _ _ _ _ _).drewN q
         have HKB := Lib.hid hkb
         have hz2 := hkb.size
         have HO2 := Lib.hid (HORD.out q)
         rw [← hw2] at HO2
         have HB2 := Lib.hid ((HB1.out.kept FQR.out (fun h => h)).kept hkb (by omega))
         have HN2 := Lib.hid ((BN.out.kept hf.out (fun h => h)).kept hkb (by omega))
         have HR2 := Lib.hid ((HRM.out.kept FQR.out (fun _ _ h => h)).kept hkb (fun b hb e => by have := hb.2; omega))
         have HF2 := Lib.hid (HFR.out.then hkb (fun i hi e => by omega))
         have q0 := HB2.out.cell 0
         have z2 := HB2.out.lt
         simp only [List.getElem?_toArray, List.getElem?_cons_succ, List.getElem?_cons_zero] at q0
         have hmk := run_make_places p.wide.length (by omega)
         clear hw2 hkb HSRT HORD HKB
         have hka : Fr w2 (w2.alloc (.cells (mkP p.wide.length fun _ => ⟨0, 0⟩) 99)) := (Kept.refl _ w2).alloc _
         have HCM := Lib.hid (show CmMem w (w2.alloc (.cells (mkP p.wide.length fun _ => ⟨0, 0⟩) 99)) p (.slice A p.wide.length c) (.slice A' p.code.length c') w1.heap.size 0 w2.heap.size _ (.slice (some ⟨gn, 0, none⟩) p.wide.length p.wide.length) cap blk (((ordL p).take 0).foldl (stepC p s) fun _ => ⟨0, 0⟩) from
           ⟨HB2.out.kept hka (fun h => h), HN2.out.kept hka (fun h => h), HR2.out.kept hka (fun _ _ h => h), HO2.out.kept hka (fun _ _ h => h), Blk.new w2 _ _, HF2.out.trans hka, fun b hb => by have := hb.2; omega, by omega, by omega, by omega⟩)
         clear hka HB2 HN2 HR2 HO2 HF2 HFR FQR BM BN HB1 HRM FQ HF hf HWQ HZB
         have hol := ordL_len l1
         have HOLT := Lib.hid (fun t ht => ordL_lt l1 (t := t) ht)
         go_wp2
         clear q0 z2 hmk
         go_loopw [63] (fun i wr => ∃ j : Nat, j ≤ p.wide.length ∧ i = .int .i64 j ∧ Hid (CmMem w wr p (.slice A p.wide.length c) (.slice A' p.code.length c') w1.heap.size 0 w2.heap.size (fun b => (w.alloc (.cells #[.slice A p.wide.length c, .slice A' p.code.length c'] 28)).heap.size < b ∧ b < w1.heap.size) (.slice (some ⟨gn, 0, none⟩) p.wide.length p.wide.length) cap blk (((ordL p).take j).foldl (stepC p s) fun _ => ⟨0, 0⟩))) (fun i _ => p.wide.length - (intOf i).toNat)
         case atStart => exact ⟨0, Nat.zero_le _, rfl, HCM⟩
         case round =>
           obtain ⟨j, hj, rfl, hcm⟩ := hrel
           clear HCM
           by_cases hjl : j < p.wide.length
           · obtain ⟨t, hjt⟩ : ∃ t, (ordL p)[j]? = some t := ⟨_, List.getElem?_eq_getElem (by omega)⟩
             have htl := HOLT.out t (List.mem_of_getElem? hjt)
             have oc := hcm.out.ordc hjt
             have HTS := Lib.hid (show ((ordL p).take (j + 1)).foldl (stepC p s) (fun _ => ⟨0, 0⟩) = stepC p s (((ordL p).take j).foldl (stepC p s) (fun _ => ⟨0, 0⟩)) t from by rw [List.take_add_one, hjt, List.foldl_append]; rfl)
             clear hjt
             generalize ((ordL p).take j).foldl (stepC p s) (fun _ => ⟨0, 0⟩) = o at *
             have hxx : p.wide[t]? = some (p.wide[t]) := List.getElem?_eq_getElem htl
             have hwd := wd_nat hxx
             obtain ⟨vw2, vc2, e2, hbo, _⟩ := H.out.kept hcm.out.fr (fun _ _ h => h)
             simp only [Value.agg.injEq, Array.mk.injEq, List.cons.injEq, and_true] at e2
             obtain ⟨rfl, hz6⟩ := e2
             clear hz6
             obtain ⟨bw, ow, cw2, ew, _, hbw, cw⟩ := hbo.at_ hxx
             simp only [Value.slice.injEq, true_and] at ew
             obtain ⟨rfl, hz6⟩ := ew
             clear hz6
             have p0 := hcm.out.pb.cell 0
             have zp := hcm.out.pb.lt
             simp only [List.getElem?_toArray, List.getElem?_cons_zero] at p0
             have zbk := cell_lt oc
             have ht0 : (0 : Int) ≤ (t : Int) := by omega
             have ht1 : (t : Int) < (p.wide.length : Int) := by omega
             have hj0 : (0 : Int) ≤ (j : Int) := by omega
             have hj1 : (j : Int) < (p.wide.length : Int) := by omega
             clear hbo hxx
             generalize p.wide[t] = x at *
             cases x with
             | true =>
               obtain ⟨rm, hrm⟩ : ∃ rm : Nat, rm = s / 2 := ⟨_, rfl⟩
               have HROOM : Hid (roomOf p s t = rm) := by show _ = _; unfold roomOf; rw [hwd]; rw [hrm]; rfl
               have HREG : Hid (∀ k : Nat, regK p t k = ⟨2, (k : Int)⟩) := fun k => by unfold regK; rw [hwd]; rfl
               have hq : ((s : Int)).tdiv 2 = (rm : Int) := by rw [Int.tdiv_eq_ediv_of_nonneg (by omega)]; omega
               have hq2 : ((s : Int)) / 2 = (rm : Int) := by omega
               clear hwd hrm
               go_wp2
               clear p0 zp cw oc zbk hbw
               go_loopw [76] (fun i wr => ∃ k : Nat, k ≤ rm ∧ i = .int .i64 k ∧ Hid (NoneTo p o t k) ∧ Hid (CmMem w wr p (.slice (some ⟨bw, ow, none⟩) p.wide.length c) (.slice A' p.code.length c') w1.heap.size 0 w2.heap.size (fun b => (w.alloc (.cells #[.slice (some ⟨bw, ow, none⟩) p.wide.length c, .slice A' p.code.length c'] 28)).heap.size < b ∧ b < w1.heap.size) (.slice (some ⟨gn, 0, none⟩) p.wide.length p.wide.length) cap blk o)) (fun i _ => rm - (intOf i).toNat)
               case atStart => exact ⟨0, Nat.zero_le _, rfl, fun j hj => by omega, hcm⟩
               case round =>
                 obtain ⟨k, hk, rfl, hnone, hm⟩ := hrel
                 clear hcm
                 by_cases hkl : k < rm
                 · have hk1 : (k : Int) < (((rm : Nat)) : Int) := by omega
                   have BA := Lib.hid (Blk.new wr 99 #[.int .i64 2, .int .i64 (k : Int)])
                   have HMA := Lib.hid (hm.out.keep ((Kept.refl _ wr).alloc (.cells #[.int .i64 2, .int .i64 (k : Int)] 99)))
                   have hgw := hm.out.ob.lt
                   go_wp2
                   obtain ⟨wA, hwA⟩ : ∃ wA : World, wA = wr.alloc (.cells #[.int .i64 2, .int .i64 (k : Int)] 99) := ⟨_, rfl⟩
                   rw [← hwA] at BA HMA ⊢
                   have hzA : wA.heap.size = wr.heap.size + 1 := by rw [hwA]; simp
                   have HWA := Lib.hid hwA
                   clear hwA
                   have HF00 := Lib.hid (Kept.refl (fun _ => False) wA)
                   go_loopw [18, 84] (fun fv i w5 => ∃ (u : Nat) (x : Bool), u ≤ p.wide.length ∧ i = .int .i64 u ∧ fv = .bool x ∧ Hid (x = freeTo p o t ⟨2, (k : Int)⟩ u) ∧ Hid (Fr wA w5)) (fun _ i _ => p.wide.length - (intOf i).toNat)
                   case atStart => exact ⟨0, true, Nat.zero_le _, rfl, rfl, rfl, HF00⟩
                   case round =>
                     obtain ⟨u, x, hu, rfl, rfl, hx, hf⟩ := hrel
                     clear HF00
                     have hb5 := BA.out.kept hf.out (fun h => h)
                     have a0 := hb5.cell 0
                     have a1 := hb5.cell 1
                     have za := hb5.lt
                     simp only [List.getElem?_toArray, List.getElem?_cons_succ, List.getElem?_cons_zero] at a0 a1
                     by_cases hul : u < p.wide.length
                     · have HM5 := Lib.hid (HMA.out.keep hf.out)
                       obtain ⟨c0, c1⟩ := mkP_at (o := o) hul
                       have e0 := (HM5.out.ob.cell (u * 2)).trans c0
                       have e1 := (HM5.out.ob.cell (u * 2 + 1)).trans c1
                       have zo := HM5.out.ob.lt
                       have n0 := HM5.out.nb.cell 0
                       have zn := HM5.out.nb.lt
                       simp only [List.getElem?_toArray, List.getElem?_cons_zero] at n0
                       obtain ⟨b6, o6, c6, v6, e6, _, z6, m0, hrow⟩ := HM5.out.rm.row (nearM_row htl)
                       simp only [Value.slice.injEq, Option.some.injEq, Addr.mk.injEq, and_true] at e6
                       obtain ⟨⟨rfl, rfl⟩, hz6, hz7⟩ := e6
                       clear hz6 hz7
                       rw [Nat.zero_add] at m0
                       have hru : ((List.range p.wide.length).map (nearB p.code t))[u]? = some (nearB p.code t u) := by simp [List.getElem?_range hul]
                       obtain ⟨b7, o7, c7, e7, _, z7, m1⟩ := hrow.at_ hru
                       rw [List.length_map, List.length_range] at e7
                       subst e7
                       have hu1 : (u : Int) < (p.wide.length : Int) := by omega
                       have hu0 : (0 : Int) ≤ (u : Int) := by omega
                       have HNX := Lib.hid (freeTo_s (p := p) (o := o) (t := t) (u := u) (a := ⟨2, (k : Int)⟩))
                       have HX := hx.out
                       rw [← HX] at HNX
                       have HOV := Lib.hid (fun w2 => over_any ⟨2, (k : Int)⟩ (o u) w2)
                       have HFA := Lib.hid (hf.out.alloc (.cells #[.int .i64 (o u).k, .int .i64 (o u).n] 99))
                       generalize nearB p.code t u = nr at *
                       generalize hou : o u = ou at *
                       obtain ⟨uk, un⟩ := ou
                       unfold PlaceV.val at HOV
                       simp only at HNX HOV HFA e0 e1
                       clear HX hx hou hrow hru c0 c1 hb5
                       cases x with
                       | false =>
                         have HN2 : Hid (false = freeTo p o t ⟨2, (k : Int)⟩ (u + 1)) := HNX.out.symm
                         go_wp2
                         go_roundw
                         case rel => exact ⟨u + 1, false, by omega, by go_num, rfl, HN2, HFA⟩
                         case measure => simp [intOf]; omega
                       | true =>
                         cases nr with
                         | false =>
                           have HN2 : Hid (true = freeTo p o t ⟨2, (k : Int)⟩ (u + 1)) := HNX.out.symm
                           go_wp2
                           go_roundw
                           case rel => exact ⟨u + 1, true, by omega, by go_num, rfl, HN2, HFA⟩
                           case measure => simp [intOf]; omega
                         | true =>
                           by_cases hk0 : uk = 0
                           · subst hk0
                             have HN2 : Hid (true = freeTo p o t ⟨2, (k : Int)⟩ (u + 1)) := by show _ = _; rw [HNX.out]; simp
                             go_wp2
                             go_roundw
                             case rel => exact ⟨u + 1, true, by omega, by go_num, rfl, HN2, HFA⟩
                             case measure => simp [intOf]; omega
                           · have hk0' : (uk == 0) = false := by simpa using hk0
                             have HN2 : Hid ((!ovP ⟨2, (k : Int)⟩ ⟨uk, un⟩) = freeTo p o t ⟨2, (k : Int)⟩ (u + 1)) := by show _ = _; rw [HNX.out]; simp [hk0]
                             generalize ovP ⟨2, (k : Int)⟩ ⟨uk, un⟩ = ov at *
                             clear hk0
                             go_wp2_with fail
                             refine (HOV.out _).mono ?_
                             rintro e w9 ⟨rfl, f9⟩
                             have HF9 := Lib.hid (HFA.out.trans f9)
                             clear f9
                             go_wp2
                             go_roundw
                             case rel => exact ⟨u + 1, _, by omega, by go_num, rfl, HN2, HF9⟩
                             case measure => simp [intOf]; omega
                     · obtain rfl : u = p.wide.length := by omega
                       have HM5 := Lib.hid (HMA.out.keep hf.out)
                       cases x with
                       | true =>
                         have hst2 := stepC_some (sg := s) hnone.out (by rw [HROOM.out]; exact hkl) (by rw [HREG.out]; exact hx.out.symm)
                         rw [HREG.out] at hst2
                         have HNM := Lib.hid (HM5.out.put t ⟨2, (k : Int)⟩)
                         have y0 := HM5.out.ob.frozen (t * 2)
                         have y1 := HM5.out.ob.frozen (t * 2 + 1)
                         obtain ⟨d0, d1⟩ := mkP_at (o := o) htl
                         have e0 := (HM5.out.ob.cell (t * 2)).trans d0
                         have e1 := (HM5.out.ob.cell (t * 2 + 1)).trans d1
                         have zo := HM5.out.ob.lt
                         have HSTP := Lib.hid (HTS.out.trans hst2)
                         clear hst2 d0 d1 hx hnone
                         go_wp2
                         go_roundw
                         case rel => exact ⟨j + 1, by omega, by go_num, by rw [HSTP.out]; exact HNM⟩
                         case measure => simp [intOf]; omega
                       | false =>
                         have HN2 : Hid (NoneTo p o t (k + 1)) := fun i hi => by
                           by_cases e : i = k
                           · subst e; rw [HREG.out]; exact hx.out.symm
                           · exact hnone.out i (by omega)
                         clear hx hnone
                         go_wp2
                         go_roundw
                         case rel => exact ⟨k + 1, by omega, by go_num, HN2, HM5⟩
                         case measure => simp [intOf]; omega
                 · have hke : k = rm := by omega
                   have hst2 := stepC_none (sg := s) (by rw [HROOM.out, ← hke]; exact hnone.out)
                   clear hke
                   have HSTP := Lib.hid (HTS.out.trans hst2)
                   clear hst2 hnone
                   go_wp2
                   go_roundw
                   case rel => exact ⟨j + 1, by omega, by go_num, by rw [HSTP.out]; exact hm⟩
                   case measure => simp [intOf]; omega
             | false =>
               skip
               have HROOM : Hid (roomOf p s t = s) := by show _ = _; unfold roomOf; rw [hwd]; rfl
               have HREG : Hid (∀ k : Nat, regK p t k = ⟨1, (k : Int)⟩) := fun k => by unfold regK; rw [hwd]; rfl
               skip
               skip
               clear hwd
               go_wp2
               clear p0 zp cw oc zbk hbw
               go_loopw [76] (fun i wr => ∃ k : Nat, k ≤ s ∧ i = .int .i64 k ∧ Hid (NoneTo p o t k) ∧ Hid (CmMem w wr p (.slice (some ⟨bw, ow, none⟩) p.wide.length c) (.slice A' p.code.length c') w1.heap.size 0 w2.heap.size (fun b => (w.alloc (.cells #[.slice (some ⟨bw, ow, none⟩) p.wide.length c, .slice A' p.code.length c'] 28)).heap.size < b ∧ b < w1.heap.size) (.slice (some ⟨gn, 0, none⟩) p.wide.length p.wide.length) cap blk o)) (fun i _ => s - (intOf i).toNat)
               case atStart => exact ⟨0, Nat.zero_le _, rfl, fun j hj => by omega, hcm⟩
               case round =>
                 obtain ⟨k, hk, rfl, hnone, hm⟩ := hrel
                 clear hcm
                 by_cases hkl : k < s
                 · have hk1 : (k : Int) < (((s : Nat)) : Int) := by omega
                   have BA := Lib.hid (Blk.new wr 99 #[.int .i64 1, .int .i64 (k : Int)])
                   have HMA := Lib.hid (hm.out.keep ((Kept.refl _ wr).alloc (.cells #[.int .i64 1, .int .i64 (k : Int)] 99)))
                   have hgw := hm.out.ob.lt
                   go_wp2
                   obtain ⟨wA, hwA⟩ : ∃ wA : World, wA = wr.alloc (.cells #[.int .i64 1, .int .i64 (k : Int)] 99) := ⟨_, rfl⟩
                   rw [← hwA] at BA HMA ⊢
                   have hzA : wA.heap.size = wr.heap.size + 1 := by rw [hwA]; simp
                   have HWA := Lib.hid hwA
                   clear hwA
                   have HF00 := Lib.hid (Kept.refl (fun _ => False) wA)
                   go_loopw [18, 84] (fun fv i w5 => ∃ (u : Nat) (x : Bool), u ≤ p.wide.length ∧ i = .int .i64 u ∧ fv = .bool x ∧ Hid (x = freeTo p o t ⟨1, (k : Int)⟩ u) ∧ Hid (Fr wA w5)) (fun _ i _ => p.wide.length - (intOf i).toNat)
                   case atStart => exact ⟨0, true, Nat.zero_le _, rfl, rfl, rfl, HF00⟩
                   case round =>
                     obtain ⟨u, x, hu, rfl, rfl, hx, hf⟩ := hrel
                     clear HF00
                     have hb5 := BA.out.kept hf.out (fun h => h)
                     have a0 := hb5.cell 0
                     have a1 := hb5.cell 1
                     have za := hb5.lt
                     simp only [List.getElem?_toArray, List.getElem?_cons_succ, List.getElem?_cons_zero] at a0 a1
                     by_cases hul : u < p.wide.length
                     · have HM5 := Lib.hid (HMA.out.keep hf.out)
                       obtain ⟨c0, c1⟩ := mkP_at (o := o) hul
                       have e0 := (HM5.out.ob.cell (u * 2)).trans c0
                       have e1 := (HM5.out.ob.cell (u * 2 + 1)).trans c1
                       have zo := HM5.out.ob.lt
                       have n0 := HM5.out.nb.cell 0
                       have zn := HM5.out.nb.lt
                       simp only [List.getElem?_toArray, List.getElem?_cons_zero] at n0
                       obtain ⟨b6, o6, c6, v6, e6, _, z6, m0, hrow⟩ := HM5.out.rm.row (nearM_row htl)
                       simp only [Value.slice.injEq, Option.some.injEq, Addr.mk.injEq, and_true] at e6
                       obtain ⟨⟨rfl, rfl⟩, hz6, hz7⟩ := e6
                       clear hz6 hz7
                       rw [Nat.zero_add] at m0
                       have hru : ((List.range p.wide.length).map (nearB p.code t))[u]? = some (nearB p.code t u) := by simp [List.getElem?_range hul]
                       obtain ⟨b7, o7, c7, e7, _, z7, m1⟩ := hrow.at_ hru
                       rw [List.length_map, List.length_range] at e7
                       subst e7
                       have hu1 : (u : Int) < (p.wide.length : Int) := by omega
                       have hu0 : (0 : Int) ≤ (u : Int) := by omega
                       have HNX := Lib.hid (freeTo_s (p := p) (o := o) (t := t) (u := u) (a := ⟨1, (k : Int)⟩))
                       have HX := hx.out
                       rw [← HX] at HNX
                       have HOV := Lib.hid (fun w2 => over_any ⟨1, (k : Int)⟩ (o u) w2)
                       have HFA := Lib.hid (hf.out.alloc (.cells #[.int .i64 (o u).k, .int .i64 (o u).n] 99))
                       generalize nearB p.code t u = nr at *
                       generalize hou : o u = ou at *
                       obtain ⟨uk, un⟩ := ou
                       unfold PlaceV.val at HOV
                       simp only at HNX HOV HFA e0 e1
                       clear HX hx hou hrow hru c0 c1 hb5
                       cases x with
                       | false =>
                         have HN2 : Hid (false = freeTo p o t ⟨1, (k : Int)⟩ (u + 1)) := HNX.out.symm
                         go_wp2
                         go_roundw
                         case rel => exact ⟨u + 1, false, by omega, by go_num, rfl, HN2, HFA⟩
                         case measure => simp [intOf]; omega
                       | true =>
                         cases nr with
                         | false =>
                           have HN2 : Hid (true = freeTo p o t ⟨1, (k : Int)⟩ (u + 1)) := HNX.out.symm
                           go_wp2
                           go_roundw
                           case rel => exact ⟨u + 1, true, by omega, by go_num, rfl, HN2, HFA⟩
                           case measure => simp [intOf]; omega
                         | true =>
                           by_cases hk0 : uk = 0
                           · subst hk0
                             have HN2 : Hid (true = freeTo p o t ⟨1, (k : Int)⟩ (u + 1)) := by show _ = _; rw [HNX.out]; simp
                             go_wp2
                             go_roundw
                             case rel => exact ⟨u + 1, true, by omega, by go_num, rfl, HN2, HFA⟩
                             case measure => simp [intOf]; omega
                           · have hk0' : (uk == 0) = false := by simpa using hk0
                             have HN2 : Hid ((!ovP ⟨1, (k : Int)⟩ ⟨uk, un⟩) = freeTo p o t ⟨1, (k : Int)⟩ (u + 1)) := by show _ = _; rw [HNX.out]; simp [hk0]
                             generalize ovP ⟨1, (k : Int)⟩ ⟨uk, un⟩ = ov at *
                             clear hk0
                             go_wp2_with fail
                             refine (HOV.out _).mono ?_
                             rintro e w9 ⟨rfl, f9⟩
                             have HF9 := Lib.hid (HFA.out.trans f9)
                             clear f9
                             go_wp2
                             go_roundw
                             case rel => exact ⟨u + 1, _, by omega, by go_num, rfl, HN2, HF9⟩
                             case measure => simp [intOf]; omega
                     · obtain rfl : u = p.wide.length := by omega
                       have HM5 := Lib.hid (HMA.out.keep hf.out)
                       cases x with
                       | true =>
                         have hst2 := stepC_some (sg := s) hnone.out (by rw [HROOM.out]; exact hkl) (by rw [HREG.out]; exact hx.out.symm)
                         rw [HREG.out] at hst2
                         have HNM := Lib.hid (HM5.out.put t ⟨1, (k : Int)⟩)
                         have y0 := HM5.out.ob.frozen (t * 2)
                         have y1 := HM5.out.ob.frozen (t * 2 + 1)
                         obtain ⟨d0, d1⟩ := mkP_at (o := o) htl
                         have e0 := (HM5.out.ob.cell (t * 2)).trans d0
                         have e1 := (HM5.out.ob.cell (t * 2 + 1)).trans d1
                         have zo := HM5.out.ob.lt
                         have HSTP := Lib.hid (HTS.out.trans hst2)
                         clear hst2 d0 d1 hx hnone
                         go_wp2
                         go_roundw
                         case rel => exact ⟨j + 1, by omega, by go_num, by rw [HSTP.out]; exact HNM⟩
                         case measure => simp [intOf]; omega
                       | false =>
                         have HN2 : Hid (NoneTo p o t (k + 1)) := fun i hi => by
                           by_cases e : i = k
                           · subst e; rw [HREG.out]; exact hx.out.symm
                           · exact hnone.out i (by omega)
                         clear hx hnone
                         go_wp2
                         go_roundw
                         case rel => exact ⟨k + 1, by omega, by go_num, HN2, HM5⟩
                         case measure => simp [intOf]; omega
                 · have hke : k = s := by omega
                   have hst2 := stepC_none (sg := s) (by rw [HROOM.out, ← hke]; exact hnone.out)
                   clear hke
                   have HSTP := Lib.hid (HTS.out.trans hst2)
                   clear hst2 hnone
                   go_wp2
                   go_roundw
                   case rel => exact ⟨j + 1, by omega, by go_num, by rw [HSTP.out]; exact hm⟩
                   case measure => simp [intOf]; omega
           · obtain rfl : j = p.wide.length := by omega
             have HE : Hid (CmMem w wr p (.slice A p.wide.length c) (.slice A' p.code.length c') w1.heap.size 0 w2.heap.size (fun b => (w.alloc (.cells #[.slice A p.wide.length c, .slice A' p.code.length c'] 28)).heap.size < b ∧ b < w1.heap.size) (.slice (some ⟨gn, 0, none⟩) p.wide.length p.wide.length) cap blk (colF p s)) := by
               have := hcm.out
               rw [← hol, List.take_length] at this
               rw [hol] at this
               exact this
             clear hcm
             go_wp2
             go_ret2
             exact ⟨HE.out.fr, Or.inr (Or.inr ⟨HM.out, by omega, by omega, HSE.out, w2.heap.size, rfl, by omega, by rw [Int.toNat_natCast]; exact HE.out.ob⟩)⟩
end Go.Proofs.YtodmkjeankbieaaGreatDoor


namespace Go.Proofs.YtodmkjeankbieaaGreatDoor
open Go.RowKit Go.Sort

structure BdMem (w : World) (gb : Nat) (p : Pg) (A : Option Addr) (c : Nat) (A' : Option Addr) (c' : Nat) (sg : Nat) (vr : Value) : Prop where
 bb : Blk w gb 84 #[.slice A p.wide.length c, .slice A' p.code.length c', .int .i64 (sg : Int), vr]
theorem BdMem.kept {w w' : World} {gb : Nat} {p : Pg} {A : Option Addr} {c : Nat} {A' : Option Addr} {c' sg : Nat} {vr : Value} {S : Nat → Prop} (h : BdMem w gb p A c A' c' sg vr) (hk : Kept S w w') (hs : ¬ S gb) : BdMem w' gb p A c A' c' sg vr := ⟨h.bb.kept hk hs⟩

theorem slot_any (t : Int) (w : World) : Calls Tryz.prog 62 #[.int .i64 t] w fun e w' => e = .returned (slotP t).val ∧ w' = w.alloc (.cells #[.int .i64 3, .int .i64 t] 99) := by
 go_enter Tryz.func62, Tryz.ntmps62
 go_wp2
 refine bodyPost_ret (v := (slotP t).val) ?_ rfl ?_
 · simp [results, Tryz.results62, go_sem, slotP, PlaceV.val]
 · exact ⟨rfl, rfl⟩

set_option maxHeartbeats 1000000 in
theorem scratch_any (gb : Nat) (R : Nat → Prop) (p : Pg) (A : Option Addr) (c : Nat) (A' : Option Addr) (c' sg : Nat) (vr : Value) (t j : Nat) (w : World) (h : BdMem w gb p A c A' c' sg vr) (hp : RdBo w R (.slice A p.wide.length c) p.wide) (ht : t < p.wide.length) (hj : j ≤ 1) (hs : 4 ≤ sg) (hs1 : sg ≤ 16) :
   Calls Tryz.prog 61 #[.pointer (some ⟨gb, 0, none⟩), .int .i64 (t : Int), .int .i64 (j : Int)] w fun e w' => e = .returned (scr p.wide (sg : Int) (t : Int) (j : Int)).val ∧ Fr w w' := by
 have hx : p.wide[t]? = some (p.wide[t]) := List.getElem?_eq_getElem ht
 obtain ⟨b, off, c2, e2, _, hlt, hcl⟩ := hp.at_ hx
 simp only [Value.slice.injEq, true_and] at e2
 obtain ⟨rfl, hz⟩ := e2
 clear hz
 have hwd := wd_nat hx
 have q0 := h.bb.cell 0
 have q2 := h.bb.cell 2
 have zb := h.bb.lt
 simp only [List.getElem?_toArray, List.getElem?_cons_succ, List.getElem?_cons_zero] at q0 q2
 have hsc : scr p.wide (sg : Int) (t : Int) (j : Int) = if p.wide[t] then ⟨2, (sg : Int) / 2 - 1 - j⟩ else ⟨1, (sg : Int) - 2 - 2 * j⟩ := by unfold scr; rw [hwd]
 have HSC := Lib.hid hsc
 have ht0 : (0 : Int) ≤ (t : Int) := by omega
 have ht1 : (t : Int) < (p.wide.length : Int) := by omega
 have hq : ((sg : Int)).tdiv 2 = (sg : Int) / 2 := Int.tdiv_eq_ediv_of_nonneg (by omega)
 have F0 := Lib.hid (Kept.refl (fun _ => False) w)
 clear hsc hwd hp h hx
 generalize scr p.wide (sg : Int) (t : Int) (j : Int) = sc at *
 generalize p.wide[t] = x at *
 cases x
 all_goals
   go_enter Tryz.func61, Tryz.ntmps61
   go_wp2
   refine bodyPost_ret (v := sc.val) ?_ rfl ?_
   · rw [HSC.out]; simp [results, Tryz.results61, go_sem, PlaceV.val]
   · exact ⟨rfl, F0.out.alloc _⟩
end Go.Proofs.YtodmkjeankbieaaGreatDoor


namespace Go.Proofs.YtodmkjeankbieaaGreatDoor
open Go.RowKit Go.Sort Go.Maps

theorem slMv : SlTy Tryz.prog 100 141 6 40 := SlTy.mk' (z := .agg #[.int .i64 0, .int .i64 0, .int .i64 0, .int .i64 0, .bool false, .int .u32 0]) Tryz.underlying100 (by kernel_rfl) rfl (by decide)
structure Bd (w : World) (gb g0 : Nat) (R : Nat → Prop) (p : Pg) (A : Option Addr) (c : Nat) (A' : Option Addr) (c' sg : Nat) (o : Nat → PlaceV) : Prop where
 bm : BdMem w gb p A c A' c' sg (.slice (some ⟨g0, 0, none⟩) p.wide.length p.wide.length)
 ob : Blk w g0 99 (mkP p.wide.length o)
 pg : RdPg w R (.agg #[.slice A p.wide.length c, .slice A' p.code.length c']) p
theorem Bd.kept {w w' : World} {gb g0 : Nat} {R : Nat → Prop} {p : Pg} {A : Option Addr} {c : Nat} {A' : Option Addr} {c' sg : Nat} {o : Nat → PlaceV} {S : Nat → Prop} (h : Bd w gb g0 R p A c A' c' sg o) (hk : Kept S w w') (h1 : ¬ S gb) (h2 : ¬ S g0) (h3 : ∀ b, R b → ¬ S b) : Bd w' gb g0 R p A c A' c' sg o :=
 ⟨h.bm.kept hk h1, h.ob.kept hk h2, h.pg.kept hk h3⟩
theorem Bd.fr {w w' : World} {gb g0 : Nat} {R : Nat → Prop} {p : Pg} {A : Option Addr} {c : Nat} {A' : Option Addr} {c' sg : Nat} {o : Nat → PlaceV} (h : Bd w gb g0 R p A c A' c' sg o) (hk : Fr w w') : Bd w' gb g0 R p A c A' c' sg o := h.kept hk (fun h => h) (fun h => h) (fun _ _ h => h)
theorem Bd.wide {w : World} {gb g0 : Nat} {R : Nat → Prop} {p : Pg} {A : Option Addr} {c : Nat} {A' : Option Addr} {c' sg : Nat} {o : Nat → PlaceV} (h : Bd w gb g0 R p A c A' c' sg o) : RdBo w R (.slice A p.wide.length c) p.wide := by
 obtain ⟨vw2, vc2, e, hb, _⟩ := h.pg
 simp only [Value.agg.injEq, Array.mk.injEq, List.cons.injEq, and_true] at e
 rw [e.1]; exact hb

theorem _root_.Go.World.ownsRow.drew_ {w : World} {base : Nat} {e : TypeId} {size n : Nat} {v : Value} {xs : List Value} (h : w.ownsRow base e size v n xs) : w.drew.ownsRow base e size v n xs := h
def rowC (d a b : PlaceV) (vb va : Value) : Array Value := #[.int .i64 d.k, .int .i64 d.n, .int .i64 a.k, .int .i64 a.n, .int .i64 b.k, .int .i64 b.n, vb, va]
def TakePost (w : World) (base gr : Nat) (d a b : PlaceV) (vb va : Value) (l' : List Mv) (ret : PlaceV) (e : Ending) (w' : World) : Prop :=
 e = .returned ret.val ∧ ∃ vb', Blk w' gr 102 (rowC d a b vb' va) ∧ w'.ownsRow base 141 6 vb' l'.length (l'.flatMap Mv.cells) ∧ Kept (fun k => k = gr ∨ vb.ownBlock = some k) w w' ∧ ∀ g, vb'.ownBlock = some g → vb.ownBlock = some g ∨ w.heap.size ≤ g

set_option maxHeartbeats 1000000 in
theorem takes_reg (base gr gb g0 : Nat) (R : Nat → Prop) (p : Pg) (A : Option Addr) (c : Nat) (A' : Option Addr) (c' sg : Nat) (o : Nat → PlaceV) (d a b : PlaceV) (vb va known : Value) (l : List Mv) (t j : Nat) (w : World) (h : Bd w gb g0 R p A c A' c' sg o) (ht : t < p.wide.length)
   (hr : Blk w gr 102 (rowC d a b vb va)) (hb : w.ownsRow base 141 6 vb l.length (l.flatMap Mv.cells)) (hk : (o t).k ≠ 0) :
   Calls Tryz.prog 60 #[.pointer (some ⟨gb, 0, none⟩), .pointer (some ⟨gr, 0, none⟩), .int .i64 (t : Int), .int .i64 (j : Int), known] w (TakePost w base gr d a b vb va l (o t)) := by
 have q3 := h.bm.bb.cell 3
 have zb := h.bm.bb.lt
 have zo := h.ob.lt
 simp only [List.getElem?_toArray, List.getElem?_cons_succ, List.getElem?_cons_zero] at q3
 obtain ⟨d0, d1⟩ := mkP_at (o := o) ht
 have e0 := (h.ob.cell (t * 2)).trans d0
 have e1 := (h.ob.cell (t * 2 + 1)).trans d1
 have ht0 : (0 : Int) ≤ (t : Int) := by omega
 have ht1 : (t : Int) < (p.wide.length : Int) := by omega
 have HFIN : Hid (∀ a : PlaceV, a.k = (o t).k → a.n = (o t).n → a = o t) := fun a h1 h2 => by cases a; simp only at h1 h2; subst h1; subst h2; rfl
 have HR := Lib.hid hr
 have HB := Lib.hid hb
 have HDEF : Hid (∀ e w', (e = Ending.returned (o t).val ∧ ∃ vb', Blk w' gr 102 (rowC d a b vb' va) ∧ w'.ownsRow base 141 6 vb' l.length (l.flatMap Mv.cells) ∧ Kept (fun k => k = gr ∨ vb.ownBlock = some k) w w' ∧ ∀ g, vb'.ownBlock = some g → vb.ownBlock = some g ∨ w.heap.size ≤ g) → TakePost w base gr d a b vb va l (o t) e w') := fun _ _ h => h
 clear h hr hb d0 d1 HFIN
 generalize o t = r at *
 obtain ⟨rk, rn⟩ := r
 simp only at hk e0 e1
 have hk' : (rk != 0) = true := by simpa using hk
 clear hk
 go_enter Tryz.func60, Tryz.ntmps60
 go_wp2
 refine bodyPost_ret (v := .agg #[.int .i64 rk, .int .i64 rn]) ?_ rfl ?_
 · simp [results, Tryz.results60, go_sem]
 · refine HDEF.out _ _ ⟨rfl, vb, ?_⟩
   have hk : Fr w (w.alloc (.cells #[.int .i64 rk, .int .i64 rn] 99)) := (Kept.refl _ w).alloc _
   exact ⟨HR.out.kept hk (fun h => h), HB.out.alloc _, Kept.of_fr hk, fun g hg => Or.inl hg⟩

theorem run_range_none {P : Program} {T K E : TypeId} (ht : P.underlying T = some (.map K E)) (w : World) : (Instr.range T (.map none)).run P w = .ok (.pointer (some ⟨w.heap.size, 0, none⟩)) (w.alloc (.mapIter none 0 #[] 0)) := by
 simp [Instr.range, run_underlying ht]
theorem run_next_none {P : Program} {w : World} {r : Nat} (h : w.heap[r]? = some (.mapIter none 0 #[] 0)) (ty : TypeId) : (Instr.next (.pointer (some ⟨r, 0, none⟩)) false ty).run P w = .ok (.tuple #[.bool false]) w := by
 have hg : Sem.run P (getObj r) w = .ok (.mapIter none 0 #[] 0) w := by simp [getObj, Sem.run, h]
 simp [Instr.next, hg]
end Go.Proofs.YtodmkjeankbieaaGreatDoor

