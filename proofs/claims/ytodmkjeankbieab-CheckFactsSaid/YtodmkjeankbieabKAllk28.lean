/- Texts of this claim, packed. -/
import Derived.Test.YtodmkjeankbieabKAllk25
import Derived.Test.YtodmkjeankbieabKAllk27
import Derived.Test.YtodmkjeankbieabKAllk23
set_option linter.all false
namespace Go.Proofs.Ytodmkjeankbieab
open Go.RowKit Go.Sort Go.Maps Go.Shelf

theorem kept_sortWorldK {α : Type} [Inhabited α] (enc : α → List Value) (k : Nat) (w : World) (blk off m : Nat) (dk : Array α) (os : Array Obj) : Kept (fun b => b = blk) w (sortWorldK enc k w blk off m dk os) := by
 refine ⟨rfl, rfl, rfl, ?_, fun i hi hne => ?_⟩
 · simp [sortWorldK, grow, putRowK, putRow, mapBlock, Sort.ahead]
 · simp only [sortWorldK, grow, putRowK, putRow, mapBlock, Sort.ahead, Array.getElem?_append, Array.size_modify, Array.getElem?_modify]
   rw [if_pos hi, if_neg (fun e => hne e.symm)]
theorem cellL_get (l : List Fc) {j : Nat} {u : Value} (h : (l.flatMap Fc.cellL)[j]? = some u) : j < l.toArray.size * 5 ∧ (Fc.cellL l.toArray[j / 5]!)[j % 5]! = u := by
 have hj : j < (l.flatMap Fc.cellL).length := (List.getElem?_eq_some_iff.1 h).1
 rw [flat_len Fc.cellL 5 Fc.cellL_len] at hj
 have hq : j / 5 < l.length := by omega
 have hx : l[j / 5]? = some l[j / 5] := List.getElem?_eq_getElem hq
 have h2 := flat_get Fc.cellL 5 Fc.cellL_len l (j / 5) (j % 5) _ hx (by omega)
 rw [show j / 5 * 5 + j % 5 = j by omega, h] at h2
 refine ⟨by simpa using hj, ?_⟩
 rw [getElem!_pos l.toArray (j / 5) (by simpa using hq)]
 rw [List.getElem!_eq_getElem?_getD, List.getElem_toArray, ← h2]
 rfl
theorem reads_of_holds {w : World} {g : Nat} {l : List Fc} {R : Nat → Prop} (hR : R g) (h : HoldsK Fc.cellL 5 w g 0 l.toArray) : Reads w R 5 (some ⟨g, 0, none⟩) l.length (l.flatMap Fc.cellL) := by
 refine ⟨flat_len Fc.cellL 5 Fc.cellL_len l, fun _ => ⟨g, 0, rfl, hR, fun j u hu => ?_⟩⟩
 obtain ⟨hj, e⟩ := cellL_get l hu
 have h1 := (h j (by rw [size_flatK]; exact hj)).1
 rw [get_flatK _ _ _ _ hj, e] at h1
 exact h1
theorem holds_of_own {w : World} {base g n cap : Nat} {e : TypeId} {l : List Fc} (h : w.ownsRow base e 5 (.slice (some ⟨g, 0, none⟩) n cap) n (l.flatMap Fc.cellL)) (hn : n = l.length) : HoldsK Fc.cellL 5 w g 0 l.toArray := by
 intro j hj
 rw [size_flatK] at hj
 have hj' : j < l.length * 5 := by simpa using hj
 have hlt : j < (l.flatMap Fc.cellL).length := by rw [flat_len Fc.cellL 5 Fc.cellL_len]; exact hj'
 obtain ⟨u, hu⟩ : ∃ u, (l.flatMap Fc.cellL)[j]? = some u := ⟨_, List.getElem?_eq_getElem hlt⟩
 obtain ⟨_, e1⟩ := cellL_get l hu
 refine ⟨?_, ?_⟩
 · rw [Nat.zero_add, h.cellAt j (by omega), hu, get_flatK _ _ _ _ hj, e1]; rfl
 · rw [Nat.zero_add]; exact h.frozenAt j

set_option maxRecDepth 100000 in
theorem insNil_any (f : Value) (w : World) : Calls Try.prog 137 #[.slice none 0 0, .int .i64 0, .int .i64 0, f] w fun e w' => e = .returned (.tuple #[]) ∧ w' = w := by
 go_enter Try.func137, Try.ntmps137
 go_wp2
 go_loopw [8] (fun i wr => i = .int .i64 1 ∧ w = wr) (fun _ _ => 0)
 case atStart => exact ⟨rfl, rfl⟩
 case round =>
   obtain ⟨rfl, rfl⟩ := hrel
   go_wp2
   go_end0
   exact ⟨rfl, rfl⟩
set_option maxRecDepth 100000 in
theorem pdqNil_any (f : Value) (w : World) : Calls Try.prog 126 #[.slice none 0 0, .int .i64 0, .int .i64 0, .int .i64 0, f] w fun e w' => e = .returned (.tuple #[]) ∧ w' = w := by
 have HI := Lib.hid (insNil_any f w)
 go_enter Try.func126, Try.ntmps126
 go_wp2
 go_loopw [1, 2, 3] (fun a b c wr => a = .int .i64 0 ∧ b = .int .i64 0 ∧ w = wr) (fun _ _ _ _ => 0)
 case atStart => exact ⟨rfl, rfl, rfl⟩
 case round =>
   obtain ⟨rfl, rfl, rfl⟩ := hrel
   go_wp2_with fail
   refine HI.out.mono ?_
   rintro e w' ⟨rfl, rfl⟩
   go_wp2
   (try simp only [Exit.inBlock, Exit.then])
   refine bodyPost_ret (results_none rfl _ _ _) rfl ?_
   exact ⟨rfl, rfl⟩
set_option maxRecDepth 100000 in
theorem sortNil_any (f : Value) (w : World) : Calls Try.prog 104 #[.slice none 0 0, f] w fun e w' => e = .returned (.tuple #[]) ∧ w' = w := by
 have HP := Lib.hid (pdqNil_any f w)
 have HL : Hid (Calls Try.prog 127 #[.int .u64 0] w fun e w' => e = .returned (.int .i64 0) ∧ w' = w) := by
   have h := Any.bits_Len (SlLaysF0.n15.bits (P := Try.prog) (ρ := sortRen6) { sortLays6 with }) 0 w (by omega) (by omega)
   exact h
 go_enter Try.func104, Try.ntmps104
 go_wp2_with fail
 refine HL.out.mono ?_
 rintro e w' ⟨rfl, rfl⟩
 go_wp2_with fail
 refine HP.out.mono ?_
 rintro e w' ⟨rfl, rfl⟩
 go_wp2
 go_end0
 exact ⟨rfl, rfl⟩

def ListPost (w : World) (S : FS) (e : Ending) (w' : World) : Prop :=
 ∃ (A : Option Addr) (c : Nat) (L : List Fc), e = .returned (.slice A L.length c) ∧ (∀ f, f ∈ L ↔ S f) ∧ L.Pairwise aheadF ∧ L.length ≤ 2400 ∧ Reads w' (fun b => w.heap.size ≤ b) 5 A L.length (L.flatMap Fc.cellL) ∧ Fr w w'

theorem sortFacts_any (g base cap : Nat) (l : List Fc) (w : World) (h : w.ownsRow base 140 5 (.slice (some ⟨g, 0, none⟩) l.length cap) l.length (l.flatMap Fc.cellL)) (hn : l.Nodup) (h2 : l.length ≤ 2400) :
   Calls Try.prog 104 #[.slice (some ⟨g, 0, none⟩) l.length cap, .func (.func 105) #[] #[]] w fun e w' => e = .returned (.tuple #[]) ∧
     ∃ L : List Fc, L.length = l.length ∧ (∀ f, f ∈ L ↔ f ∈ l) ∧ L.Pairwise aheadF ∧ Reads w' (fun b => b = g) 5 (some ⟨g, 0, none⟩) L.length (L.flatMap Fc.cellL) ∧ Kept (fun b => b = g) w w' := by
 have hH := holds_of_own h rfl
 have hg := (own_lt h (g := g) rfl).2
 have hsz : l.toArray.size = l.length := by simp
 have hc := AnyQ.slices_SortFunc (P := Try.prog) (ρ := sortRen6) sortLays6 5 (fun w => by kernel_rfl) (fun w => by kernel_rfl) Fc.cellL Fc.cellL_len (fun x v hv => by
   unfold Fc.cellL at hv
   simp only [List.mem_cons, List.not_mem_nil, or_false] at hv
   rcases hv with rfl | rfl | rfl | rfl | rfl <;> rfl) ordF ordF_swo 105 #[] g 0 cap l.toArray w (fun args w => by kernel_rfl)
   (fun m os dk _ x y => by simpa using order_any x y (sortWorldK Fc.cellL 5 w g 0 m dk os)) hH hg (by rw [hsz]; omega)
 rw [hsz] at hc
 refine hc.mono ?_
 rintro e w' ⟨he, d', n, os, hp, hs, rfl⟩
 refine ⟨he, d'.toList, ?_, ?_, ?_, ?_, kept_sortWorldK _ _ _ _ _ _ _ _⟩
 · have := hp.1
   rw [Array.length_toList, this, hsz]
 · intro f
   have h3 := hp.2.2
   have e1 : d'.extract 0 l.length = d' := by
     have := hp.1
     rw [hsz] at this
     rw [← this]; exact Array.extract_size
   have e2 : l.toArray.extract 0 l.length = l.toArray := by
     conv => lhs; rw [← hsz]
     exact Array.extract_size
   rw [e1, e2] at h3
   simpa using h3.mem_iff (a := f)
 · have h3 := hp.2.2
   have hd : d'.size = l.length := by have := hp.1; rw [hsz] at this; exact this
   have e1 : d'.extract 0 l.length = d' := by rw [← hd]; exact Array.extract_size
   have e2 : l.toArray.extract 0 l.length = l.toArray := by
     conv => lhs; rw [← hsz]
     exact Array.extract_size
   rw [e1, e2] at h3
   refine sorted_pairwise ((h3.nodup_iff).2 (by simpa using hn)) fun i j hij hj hi => ?_
   have hj' : j < d'.size := by simpa using hj
   have hi' : i < d'.size := by simpa using hi
   have h4 := hs i j (Nat.zero_le _) hij (by omega)
   rw [getElem!_pos d' j hj', getElem!_pos d' i hi'] at h4
   simp only [Array.getElem_toList]
   intro hc
   have := ordF_lt.2 hc
   unfold ltOf at h4
   simp [this] at h4
 · have hd : d'.size = l.toArray.size := hp.1
   have := holdsK_sortWorldK_c Fc.cellL 5 w g 0 l.toArray d' n os hH hg hd
   exact reads_of_holds rfl this

set_option maxHeartbeats 4000000 in
set_option maxRecDepth 100000 in
theorem listNil_any (w : World) : Calls Try.prog 78 #[.map none] w (ListPost w fun _ => False) := by
 have HS := Lib.hid (fun w2 => sortNil_any (.func (.func 105) #[] #[]) w2)
 have HF := Lib.hid (show Fr w (w.alloc (.mapIter none 0 #[] 0)) from (Kept.refl _ w).alloc _)
 have hrg := fun w2 => run_range_none (P := Try.prog) Try.underlying137 w2
 have hsx : (w.alloc (.mapIter none 0 #[] 0)).heap[w.heap.size]? = some (.mapIter none 0 #[] 0) := heap_alloc_new w _
 go_enter Try.func78, Try.ntmps78
 go_wp2
 clear hrg
 go_loopw [3] (fun vl wr => vl = .slice none 0 0 ∧ wr = w.alloc (.mapIter none 0 #[] 0)) (fun _ _ => 0)
 case atStart => exact ⟨rfl, rfl⟩
 case round =>
   obtain ⟨rfl, rfl⟩ := hrel
   have hnx := fun ty => run_next_none (P := Try.prog) hsx ty
   generalize w.alloc (.mapIter none 0 #[] 0) = w1 at *
   clear hsx
   go_wp2_with fail
   refine (HS.out _).mono ?_
   rintro e w2 ⟨rfl, rfl⟩
   go_wp2
   go_ret
   exact ⟨none, 0, [], rfl, fun _ => by simp, List.Pairwise.nil, by simp, Reads.none_, HF.out⟩

set_option maxHeartbeats 4000000 in
set_option maxRecDepth 100000 in
theorem list_any (b n : Nat) (S : FS) (w : World) (h : FSet w b n S) (hn : n ≤ 2400) : Calls Try.prog 78 #[.map (some b)] w (ListPost w S) := by
 have H1 := Lib.hid h
 have zb := h.lt
 have HDEF : Hid (∀ (e : Ending) (w' : World), (∃ (A : Option Addr) (c : Nat) (L : List Fc), e = .returned (.slice A L.length c) ∧ (∀ f, f ∈ L ↔ S f) ∧ L.Pairwise aheadF ∧ L.length ≤ 2400 ∧ Reads w' (fun b => w.heap.size ≤ b) 5 A L.length (L.flatMap Fc.cellL) ∧ Fr w w') → ListPost w S e w') := fun _ _ h => h
 clear h
 go_enter Try.func78, Try.ntmps78
 go_wp2_with (first
   | (at_range; refine wpList_set_range _ rfl _ rfl setTy b n S rfl H1.out ?_; intro w0 cnt hrg hk hs hle; go_frame)
   | go_in)
 have HR0 := Lib.hid hrg
 have HF0 := Lib.hid (show Fr w w0 from hk)
 have HM0 : Hid (∀ f : Fc, f ∈ ([] : List Fc) ↔ (S f ∧ ¬ S f)) := fun f => by simp
 have HE0 : Hid (([] : List Fc) = [] → Value.slice none 0 0 = Value.slice none 0 0) := fun _ => rfl
 have HO0 := Lib.hid (show w0.ownsRow w.heap.size 140 5 (.slice none 0 0) ([] : List Fc).length (([] : List Fc).flatMap Fc.cellL) from World.ownsRow_nil _ _ _ _)
 have HN0 := Lib.hid (List.nodup_nil (α := Fc))
 clear hrg hk hs H1
 go_loopw [3] (fun vl wr => ∃ (L : FS) (cnt : Nat) (ls : List Fc), Hid (FRange wr b w.heap.size n S L cnt) ∧ ls.length + cnt ≤ n ∧ Hid (∀ f, f ∈ ls ↔ (S f ∧ ¬ L f)) ∧ Hid ls.Nodup ∧ Hid (ls = [] → vl = Value.slice none 0 0) ∧ Hid (wr.ownsRow w.heap.size 140 5 vl ls.length (ls.flatMap Fc.cellL)) ∧ Hid (Fr w wr)) (fun _ wr => wr.rangeLeft b w.heap.size)
 case atStart => exact ⟨S, cnt, [], HR0, by simpa using hle, HM0, HN0, HE0, HO0, HF0⟩
 case round =>
   rename_i vl _
   obtain ⟨L, cn, ls, hm, hle2, hmem, hnd, hen0, hown, hf⟩ := hrel
   clear HR0 HF0 HM0 HE0 HO0 HN0 hle
   go_wp2_with (first
     | (at_next; refine wpList_set_next _ rfl _ rfl setTy b w.heap.size n S L cn rfl hm.out ?_ ?_)
     | go_in)
   · intro _ hl0
     have HMS := Lib.hid (fun f => (hmem.out f).trans ⟨fun h => h.1, fun h => ⟨h, hl0 f⟩⟩)
     clear hmem hm hl0
     by_cases hls : ls = []
     · have hv := hen0.out hls
       subst hls
       subst hv
       have HS := Lib.hid (sortNil_any (.func (.func 105) #[] #[]) wr)
       go_wp2_with fail
       refine HS.out.mono ?_
       rintro e w2 ⟨rfl, rfl⟩
       go_wp2
       go_ret
       exact HDEF.out _ _ ⟨none, 0, [], rfl, HMS.out, List.Pairwise.nil, by simp, Reads.none_, hf.out⟩
     · have hpos : 0 < ls.length := List.length_pos_iff.2 hls
       obtain ⟨g, cap, rfl, hg1, hg2⟩ := own_some hown.out hpos
       have HS := Lib.hid (sortFacts_any g w.heap.size cap ls wr hown.out hnd.out (by omega))
       clear hls hen0
       go_wp2_with fail
       refine HS.out.mono ?_
       rintro e w2 ⟨rfl, L2, hL, hmem2, hp2, hrd, hk2⟩
       have HFIN := Lib.hid (show ∃ (A : Option Addr) (c : Nat) (L : List Fc), Ending.returned (.slice (some ⟨g, 0, none⟩) ls.length cap) = .returned (.slice A L.length c) ∧ (∀ f, f ∈ L ↔ S f) ∧ L.Pairwise aheadF ∧ L.length ≤ 2400 ∧ Reads w2 (fun b => w.heap.size ≤ b) 5 A L.length (L.flatMap Fc.cellL) ∧ Fr w w2 from
         ⟨some ⟨g, 0, none⟩, cap, L2, by rw [hL], fun f => (hmem2 f).trans (HMS.out f), hp2, by omega, hrd.more (fun b hb => by omega), hf.out.then hk2 (fun i hi e => by omega)⟩)
       clear hL hmem2 hp2 hrd hk2 HS
       go_wp2
       go_ret
       exact HDEF.out _ _ HFIN.out
   · intro f w1 cn1 hLf hrg1 hlt hk1 hs1 hen
     have hSf := FRange.sub hm.out f hLf
     have HLE : Hid (wr.rangeLeft b w.heap.size = cn) := hm.out.left_eq
     have hrl := hm.out.lt.1
     have how1 := own_kept hown.out hk1 (fun g hg e => by
       have h1 := (own_lt hown.out hg)
       have h2 := hrg1.lt
       subst e
       rcases hown.out.2 with ⟨e2, _⟩ | ⟨g', cap, cur, e2, _, hh, _⟩
       · rw [e2] at hg; cases hg
       · have : g' = w.heap.size := by rw [e2] at hg; simpa [Value.ownBlock] using hg
         subst this
         obtain ⟨D, left, hrr, _⟩ := hm.out
         obtain ⟨es, clock, since, seen, c0, hb, F, hs, hD, hr', rest⟩ := hrr
         rw [hr'] at hh
         cases hh)
     have hf1 := hf.out.then hk1 (fun i hi e => by omega)
     have F2 : Fr w1 ((w1.alloc (.cells f.cells 140)).alloc (.cells f.cells 140)) := ((Kept.refl _ w1).alloc _).alloc _
     have HXR := Lib.hid (RangeAt.kept hrg1 F2 (fun h => h) (fun h => h))
     have HXO := Lib.hid (own_kept how1 F2 (fun _ _ h => h))
     have HXF := Lib.hid (hf1.trans F2)
     have HMN : Hid (∀ y, y ∈ ls ++ [f] ↔ (S y ∧ ¬ (L y ∧ y ≠ f))) := fun y => by
       rw [List.mem_append, hmem.out y, List.mem_singleton]
       constructor
       · rintro (⟨h1, h2⟩ | rfl)
         · exact ⟨h1, fun h => h2 h.1⟩
         · exact ⟨hSf, fun h => h.2 rfl⟩
       · rintro ⟨h1, h2⟩
         by_cases e : y = f
         · exact Or.inr e
         · exact Or.inl ⟨h1, fun h => h2 ⟨h, e⟩⟩
     have HNN := Lib.hid (show (ls ++ [f]).Nodup from List.nodup_append.2 ⟨hnd.out, by simp, fun a ha b hb e => by
       rw [List.mem_singleton] at hb
       subst hb; subst e
       exact ((hmem.out a).1 ha).2 hLf⟩)
     have HFL := Lib.hid (show (ls ++ [f]).flatMap Fc.cellL = ls.flatMap Fc.cellL ++ [.int .i64 f.pl.k, .int .i64 f.pl.n, .bool f.temp, .int .i64 f.t, .int .u32 (f.n : Int)] from flatL_snoc ls f)
     have HLL := Lib.hid (show (ls ++ [f]).length = ls.length + 1 from by simp)
     have HNE := Lib.hid (show ls ++ [f] ≠ [] from by simp)
     have hsz := Kept.size hf1
     have hk1s := hk1.size
     clear hm hmem hnd hen0 hown hf hrg1 hk1 hs1 how1 hf1 F2
     generalize ls ++ [f] = ln at *
     obtain ⟨⟨fk, fn⟩, ft, tt, nn⟩ := f
     unfold Fc.cells at HXR HXO HXF
     unfold Fc.val at hen
     simp only at hen HXR HXO HXF HFL
     obtain ⟨Av, cv, rfl, _, _⟩ := own_reads HXO.out
     go_wp2_with (first
       | (at_builtin
          refine wpList_app (base := w.heap.size) _ rfl slFacts (.tmp 11) (.tmp 13) rfl (.slice Av ls.length cv) ls.length _ rfl HXO.out (fun _ => True) _ 1 1 [.int .i64 fk, .int .i64 fn, .bool ft, .int .i64 tt, .int .u32 (nn : Int)] rfl (Reads.lit' (by simp) trivial rfl) ?_ ?_ ?_ ?_ ?_
          · simp [Value.oneCell']
          · omega
          · unfold maxLen; omega
          · simp; omega
          intro v1 w2 hown2 hk2 hat2)
       | go_in)
     have HR9 := Lib.hid (RangeAt.kept HXR.out hk2 (fun e => by have := (own_lt HXO.out e).1; omega) (fun e => by
       have h2 := own_lt HXO.out e
       rcases HXO.out.2 with ⟨e2, _⟩ | ⟨g', cap, cur, e2, _, hh, _⟩
       · rw [e2] at e; cases e
       · have : g' = w.heap.size := by rw [e2] at e; simpa [Value.ownBlock] using e
         subst this
         obtain ⟨D, left, hrr, _⟩ := HXR.out
         obtain ⟨es, clock, since, seen, c0, hb, F, hs, hD, hr', rest⟩ := hrr
         rw [hr'] at hh
         cases hh))
     have HO9 := Lib.hid (show w2.ownsRow w.heap.size 140 5 v1 ln.length (ln.flatMap Fc.cellL) from by rw [HLL.out, HFL.out]; exact hown2)
     have HF9 := Lib.hid (HXF.out.then hk2 (fun i hi e => by have := (own_lt HXO.out e).1; omega))
     have HE9 : Hid (ln = [] → v1 = Value.slice none 0 0) := fun e => absurd e HNE.out
     have hl9 := HLL.out
     clear hown2 hk2 hat2 HXR HXO HXF
     go_roundw
     case rel => exact ⟨_, cn1, ln, HR9, by omega, HMN, HNN, HE9, HO9, HF9⟩
     case measure => rw [HR9.out.left_eq, HLE.out]; exact hlt
end Go.Proofs.Ytodmkjeankbieab


namespace Go.Proofs.Ytodmkjeankbieab
open Go.RowKit Go.Sort Go.Maps

open Classical in
noncomputable def canon (S : FS) : List Fc := if h : ∃ L : List Fc, L.Pairwise aheadF ∧ ∀ f, f ∈ L ↔ S f then Classical.choose h else []
theorem canon_eq {S : FS} {L : List Fc} (h1 : L.Pairwise aheadF) (h2 : ∀ f, f ∈ L ↔ S f) : canon S = L := by
 unfold canon
 have h : ∃ L : List Fc, L.Pairwise aheadF ∧ ∀ f, f ∈ L ↔ S f := ⟨L, h1, h2⟩
 rw [dif_pos h]
 have hc := Classical.choose_spec h
 exact aheadF_uniq hc.1 h1 fun f => (hc.2 f).trans (h2 f).symm
noncomputable def knL (p : Pg) (sg : Int) (l : Pd) (k : Nat) : List Fc := canon fun f => Come p.code k ∧ Kn p sg l k f

def RdF (w : World) (R : Nat → Prop) (v : Value) (L : List Fc) : Prop := ∃ A c, v = .slice A L.length c ∧ L.length ≤ 2400 ∧ Reads w R 5 A L.length (L.flatMap Fc.cellL)
theorem RdF.kept {w w' : World} {R S : Nat → Prop} {v : Value} {L : List Fc} (h : RdF w R v L) (hk : Kept S w w') (hs : ∀ b, R b → ¬ S b) : RdF w' R v L :=
 let ⟨A, c, e, hl, hr⟩ := h
 ⟨A, c, e, hl, hr.kept hk hs⟩
theorem RdF.more {w : World} {R R' : Nat → Prop} {v : Value} {L : List Fc} (h : RdF w R v L) (hs : ∀ b, R b → R' b) : RdF w R' v L :=
 let ⟨A, c, e, hl, hr⟩ := h
 ⟨A, c, e, hl, hr.more hs⟩
theorem RdF.both {w : World} {R : Nat → Prop} {v : Value} {L : List Fc} (h : RdF w R v L) : RdF w (fun b => R b ∧ b < w.heap.size) v L :=
 let ⟨A, c, e, hl, hr⟩ := h
 ⟨A, c, e, hl, Reads.both hr (by decide)⟩
def RdFF (w : World) (R : Nat → Prop) (v : Value) (n : Nat) (M : Nat → List Fc) : Prop :=
 ∃ (A : Option Addr) (c : Nat) (vs : List Value), v = .slice A n c ∧ Reads w R 1 A n vs ∧ ∀ j, j < n → ∃ u, vs[j]? = some u ∧ RdF w R u (M j)
theorem RdFF.kept {w w' : World} {R S : Nat → Prop} {v : Value} {n : Nat} {M : Nat → List Fc} (h : RdFF w R v n M) (hk : Kept S w w') (hs : ∀ b, R b → ¬ S b) : RdFF w' R v n M :=
 let ⟨A, c, vs, e, hr, hrow⟩ := h
 ⟨A, c, vs, e, hr.kept hk hs, fun j hj => let ⟨u, h1, h2⟩ := hrow j hj; ⟨u, h1, h2.kept hk hs⟩⟩

structure RowsF (w wr : World) (v : Value) (k : Nat) (M : Nat → List Fc) (vs : List Value) : Prop where
 ow : wr.ownsRow w.heap.size 118 1 v k vs
 row : ∀ j, j < k → ∃ u, vs[j]? = some u ∧ RdF wr (fun b => (w.heap.size ≤ b ∧ v.ownBlock ≠ some b) ∧ b < wr.heap.size) u (M j)
section
variable {w wr w2 w3 : World} {v v1 u : Value} {k : Nat} {M : Nat → List Fc} {vs : List Value}
theorem RowsF.nil (w wr : World) (M : Nat → List Fc) : RowsF w wr (.slice none 0 0) 0 M [] := ⟨World.ownsRow_nil _ _ _ _, fun j hj => by omega⟩
theorem RowsF.fr (h : RowsF w wr v k M vs) (hk : Fr wr w2) : RowsF w w2 v k M vs :=
 ⟨own_kept h.ow hk (fun _ _ h => h), fun j hj => let ⟨u, h1, h2⟩ := h.row j hj; ⟨u, h1, (h2.kept hk (fun _ _ h => h)).more fun b hb => ⟨hb.1, Nat.lt_of_lt_of_le hb.2 (Kept.size hk)⟩⟩⟩
theorem RowsF.len (h : RowsF w wr v k M vs) : vs.length = k := by have := h.ow.1; omega
theorem RowsF.snoc {o : Obj} (h : RowsF w wr v k M vs) (hw : w.heap.size ≤ wr.heap.size) (hf : Fr wr w3) (hr : RdF w3 (fun b => wr.heap.size ≤ b) u (M k)) (hown : w2.ownsRow w.heap.size 118 1 v1 (k + 1) (vs ++ [u])) (hk : Kept (fun b => v.ownBlock = some b) (w3.alloc o) w2)
   (hat : v1.ownBlock = v.ownBlock ∨ v1.ownBlock = some (w3.alloc o).heap.size) : RowsF w w2 v1 (k + 1) M (vs ++ [u]) := by
 have hfo : Fr w3 (w3.alloc o) := (Kept.refl _ w3).alloc o
 have hsz := Kept.size hf
 have hso := Kept.size hfo
 have hs2 := Kept.size hk
 have hlen := h.len
 refine ⟨hown, fun j hj => ?_⟩
 by_cases e : j = k
 · subst e
   refine ⟨u, by rw [List.getElem?_append_right (by omega)]; simp [hlen], ?_⟩
   have h1 := (hr.both.kept hfo (fun _ _ h => h)).kept hk (fun b hb e2 => by have := (own_lt h.ow e2).2; omega)
   refine h1.more fun b hb => ⟨⟨by omega, fun e2 => ?_⟩, by omega⟩
   rcases hat with h2 | h2
   · rw [h2] at e2; have := (own_lt h.ow e2).2; omega
   · rw [h2] at e2; injection e2 with e2; omega
 · obtain ⟨u', h1, h2⟩ := h.row j (by omega)
   refine ⟨u', by rw [List.getElem?_append_left (by omega)]; exact h1, ?_⟩
   have h3 := ((h2.kept hf (fun _ _ h => h)).kept hfo (fun _ _ h => h)).kept hk (fun b hb e2 => hb.1.2 e2)
   refine h3.more fun b hb => ⟨⟨hb.1.1, fun e2 => ?_⟩, by omega⟩
   rcases hat with h4 | h4
   · rw [h4] at e2; exact hb.1.2 e2
   · rw [h4] at e2; injection e2 with e2; omega
theorem RowsF.rd (h : RowsF w wr v k M vs) : RdFF wr (fun b => w.heap.size ≤ b) v k M := by
 obtain ⟨A, c, hv, _, hr⟩ := own_reads h.ow
 exact ⟨A, c, vs, hv, hr.more (fun b hb => hb.1), fun j hj => let ⟨u, h1, h2⟩ := h.row j hj; ⟨u, h1, h2.more fun b hb => hb.1.1⟩⟩
end
theorem slFFs : SlTy Try.prog 76 118 1 24 := SlTy.mk' (z := .slice none 0 0) Try.underlying76 (by kernel_rfl) rfl (by decide)
end Go.Proofs.Ytodmkjeankbieab


namespace Go.Proofs.Ytodmkjeankbieab
open Go.RowKit Go.Sort Go.Maps

def CkPost (w : World) (p : Pg) (sg : Int) (l : Pd) (e : Ending) (w' : World) : Prop :=
 Fr w w' ∧ ((mayL p sg l = false ∧ e = .returned (.tuple #[.slice none 0 0, .int .i64 2])) ∨
   (mayL p sg l = true ∧ ∃ v, e = .returned (.tuple #[v, .int .i64 0]) ∧ RdFF w' (fun b => w.heap.size ≤ b) v p.code.length (knL p sg l)))

set_option maxHeartbeats 4000000 in
set_option maxRecDepth 100000 in
theorem ckFacts_any (R R' : Nat → Prop) (v vl : Value) (p : Pg) (sg : Int) (l : Pd) (w : World) (h : RdPg w R v p) (hL : RdPd w R' vl l) :
   Calls Try.prog 36 #[v, tgV sg, vl] w (CkPost w p sg l) := by
 have H := Lib.hid h
 have HL := Lib.hid hL
 obtain ⟨vw, vc, rfl, ⟨A1, c1, rfl, hl1, hr1⟩, ⟨A, c2, rfl, hl2, hr2, ho2⟩⟩ := h
 obtain ⟨vr, lv, rfl, hsl, ⟨Al, cl, rfl, hlr, hrr, hor⟩, hrows⟩ := hL
 clear hr1 hr2 ho2 hrr hor hrows hsl
 have HMy := Lib.hid (fun w2 (hf : Fr w w2) => placeMay_any R R' _ _ p sg l w2 (H.out.kept hf (fun _ _ h => h)) (HL.out.kept hf (fun _ _ h => h)))
 have HQ := Lib.hid (Q3.start w #[.slice A1 p.wide.length c1, .slice A p.code.length c2] #[.int .i64 sg] #[.int .i64 l.slots, .slice Al lv.length cl])
 unfold tgV at HMy ⊢
 go_enter Try.func36, Try.ntmps36
 go_wp2_with fail
 refine (HMy.out _ HQ.out.fr).mono ?_
 rintro e w2 ⟨rfl, f2⟩
 have HQ2 := Lib.hid (HQ.out.keep f2)
 clear HQ f2 HMy
 cases hm : mayL p sg l with
 | false =>
   have HM := Lib.hid hm
   clear hm
   go_wp2
   go_ret2
   exact ⟨HQ2.out.fr, Or.inl ⟨HM.out, rfl⟩⟩
 | true =>
   have HM := Lib.hid hm
   obtain ⟨m1, m2, m3, m4, m5⟩ := mayL_facts hm
   obtain ⟨t1, t2, t3⟩ := tg_facts m2
   have hpl := (mayB_len m1).2.2.2
   clear hm m1 m2 m5
   obtain ⟨sgn, rfl⟩ : ∃ n : Nat, sg = (n : Int) := ⟨sg.toNat, by omega⟩
   obtain ⟨sl, hsl⟩ : ∃ n : Nat, l.slots = (n : Int) := ⟨l.slots.toNat, by omega⟩
   have HSL := Lib.hid hsl
   have HOA := Lib.hid (fun w3 (hf : Fr w w3) => ofAll_any R R' _ _ p sgn sl l w3 (H.out.kept hf (fun _ _ h => h)) (HL.out.kept hf (fun _ _ h => h)) HM.out HSL.out)
   rw [hsl] at HQ2 HOA
   clear hsl m3 m4
   have q0 := HQ2.out.b0.cell 0
   have q1 := HQ2.out.b0.cell 1
   have t0 := HQ2.out.b1.cell 0
   have s0 := HQ2.out.b2.cell 0
   have s1 := HQ2.out.b2.cell 1
   have z0 := HQ2.out.b0.lt
   have z1 := HQ2.out.b1.lt
   have z2 := HQ2.out.b2.lt
   simp only [List.getElem?_toArray, List.getElem?_cons_succ, List.getElem?_cons_zero] at q0 q1 t0 s0 s1
   have HDEF : Hid (∀ (e : Ending) (w' : World), Fr w w' → (∃ v, e = .returned (.tuple #[v, .int .i64 0]) ∧ RdFF w' (fun b => w.heap.size ≤ b) v p.code.length (knL p sgn l)) → CkPost w p sgn l e w') := fun _ _ hf h => ⟨hf, Or.inr ⟨HM.out, h⟩⟩
   go_wp2
   go_region_held3 (fun w' => w'.cell? ⟨w.heap.size, 0, none⟩ = some (.slice A1 p.wide.length c1) ∧ w'.cell? ⟨w.heap.size, 1, none⟩ = some (.slice A p.code.length c2) ∧ w'.cell? ⟨w.heap.size + 1, 0, none⟩ = some (.int .i64 (sgn : Int)) ∧ w'.cell? ⟨w.heap.size + 2, 0, none⟩ = some (.int .i64 (sl : Int)) ∧ w'.cell? ⟨w.heap.size + 2, 1, none⟩ = some (.slice Al lv.length cl))
     (first
       | go_keep
       | exact sa
       | exact sb)
     (first
       | (go_at_call 62; refine (HOA.out _ (HQ2.out.fr.trans (Kept.refl (fun _ => False) w2).drew)).mono ?_; rintro e wa ⟨gw, rfl, fa0, hall⟩; have fa := (Kept.refl (fun _ => False) w2).drew.trans fa0; have sa := (show wa.cell? ⟨w.heap.size, 0, none⟩ = some (.slice A1 p.wide.length c1) ∧ wa.cell? ⟨w.heap.size, 1, none⟩ = some (.slice A p.code.length c2) ∧ wa.cell? ⟨w.heap.size + 1, 0, none⟩ = some (.int .i64 (sgn : Int)) ∧ wa.cell? ⟨w.heap.size + 2, 0, none⟩ = some (.int .i64 (sl : Int)) ∧ wa.cell? ⟨w.heap.size + 2, 1, none⟩ = some (.slice Al lv.length cl) from ⟨(fa.cell z0 (fun h => h)).trans q0, (fa.cell z0 (fun h => h)).trans q1, (fa.cell z1 (fun h => h)).trans t0, (fa.cell z2 (fun h => h)).trans s0, (fa.cell z2 (fun h => h)).trans s1⟩); have hall2 := hall _ (Kept.refl (fun _ => False) wa))
       | (go_at_call 63; refine hall2.mono ?_; rintro e wb ⟨fb0, g0, vs, ok, rfl, hg0, hbs, hat, hok⟩; have fb := fa.trans fb0; have sb := (show wb.cell? ⟨w.heap.size, 0, none⟩ = some (.slice A1 p.wide.length c1) ∧ wb.cell? ⟨w.heap.size, 1, none⟩ = some (.slice A p.code.length c2) ∧ wb.cell? ⟨w.heap.size + 1, 0, none⟩ = some (.int .i64 (sgn : Int)) ∧ wb.cell? ⟨w.heap.size + 2, 0, none⟩ = some (.int .i64 (sl : Int)) ∧ wb.cell? ⟨w.heap.size + 2, 1, none⟩ = some (.slice Al lv.length cl) from ⟨(fb.cell z0 (fun h => h)).trans q0, (fb.cell z0 (fun h => h)).trans q1, (fb.cell z1 (fun h => h)).trans t0, (fb.cell z2 (fun h => h)).trans s0, (fb.cell z2 (fun h => h)).trans s1⟩)))
   rename_i hHeld
   clear hHeld
   have HF := Lib.hid (HQ2.out.fr.trans fb)
   have HBS := Lib.hid hbs
   have HAT := Lib.hid hat
   clear sa sb fa fb fa0 fb0 hok hall hall2 q0 q1 t0 s0 s1 z0 z1 z2 hbs hat HQ2 HOA hg0
   have HLS := Lib.hid (show ∀ k, k < p.code.length → ∀ w3, Fr wb w3 → Calls Try.prog 78 #[vs k] w3 (fun e w' => ∃ u, e = .returned u ∧ RdF w' (fun b => w3.heap.size ≤ b) u (knL p (sgn : Int) l k) ∧ Fr w3 w') from fun k hk w3 hf3 => by
     obtain ⟨h1, h2⟩ := HAT.out k hk
     by_cases hcm : Come p.code k
     · obtain ⟨bb, hv, hset⟩ := h1 hcm
       rw [hv]
       refine (list_any bb 2400 _ w3 (hset.kept hf3 (fun h => h)) (Nat.le_refl _)).mono ?_
       rintro e w' ⟨A, c, L, rfl, hmem, hup, hlen, hrd, hfr⟩
       have he : knL p (sgn : Int) l k = L := canon_eq hup fun f => (hmem f).trans ⟨fun h => ⟨hcm, h⟩, fun h => h.2⟩
       rw [he]
       exact ⟨_, rfl, ⟨A, c, rfl, hlen, hrd⟩, hfr⟩
     · rw [h2 hcm]
       refine (listNil_any w3).mono ?_
       rintro e w' ⟨A, c, L, rfl, hmem, hup, hlen, hrd, hfr⟩
       have he : knL p (sgn : Int) l k = L := canon_eq hup fun f => (hmem f).trans ⟨fun h => h.elim, fun h => hcm h.1⟩
       rw [he]
       exact ⟨_, rfl, ⟨A, c, rfl, hlen, hrd⟩, hfr⟩)
   have HR0 := Lib.hid (RowsF.nil wb wb (knL p (sgn : Int) l))
   have HF0 := Lib.hid (Kept.refl (fun _ => False) wb)
   clear HAT
   go_wp2
   go_loopw [10, 30] (fun vo i wr => ∃ (k : Nat) (xs : List Value), i = .int .i64 (k : Int) ∧ k ≤ p.code.length ∧ Hid (RowsF wb wr vo k (knL p (sgn : Int) l) xs) ∧ Hid (Fr wb wr)) (fun _ i _ => p.code.length - (intOf i).toNat)
   case atStart => exact ⟨0, [], rfl, Nat.zero_le _, HR0, HF0⟩
   case round =>
     rename_i vo _
     obtain ⟨k, xs, rfl, hk, hx, hf⟩ := hrel
     clear HR0 HF0
     have hk0 : (0 : Int) ≤ (k : Int) := Int.natCast_nonneg _
     by_cases hkl : k < p.code.length
     · have hk1 : (k : Int) < (p.code.length : Int) := by omega
       have hbs := HBS.out.kept hf.out (fun h => h)
       have u0 := hbs.cell k
       rw [mkS_at hkl] at u0
       have zs := hbs.lt
       have HLK := Lib.hid (HLS.out k hkl wr hf.out)
       clear hbs
       obtain ⟨A0, c0, rfl, _, _⟩ := own_reads hx.out.ow
       go_wp2_with fail
       refine HLK.out.mono ?_
       rintro e w4 ⟨u, rfl, hru, f4⟩
       obtain ⟨Au, cu, rfl, _⟩ := id hru
       have HX4 := Lib.hid (hx.out.fr f4)
       have HRU := Lib.hid hru
       have hwsz := Kept.size hf.out
       have hsz4 := Kept.size f4
       have HXB := Lib.hid (own_kept HX4.out.ow ((Kept.refl (fun _ => False) w4).alloc (.cells #[.slice Au (knL p (sgn : Int) l k).length cu] 118)) (fun _ _ h => h))
       have HF4 := Lib.hid f4
       clear f4 u0 zs hru HLK
       go_wp2_with (at_builtin
                    refine wpList_app (base := wb.heap.size) _ rfl slFFs (.tmp 34) (.tmp 37) rfl (.slice A0 k c0) k _ rfl HXB.out (fun _ => True) _ 1 1 [.slice Au (knL p (sgn : Int) l k).length cu] rfl (Reads.lit' (by simp) trivial rfl) ?_ ?_ ?_ ?_ ?_
                    · simp [Value.oneCell']
                    · omega
                    · unfold maxLen; omega
                    · simp; omega
                    intro v1 w6 hown1 hk1' hat1
                    have HN := Lib.hid (hx.out.snoc hwsz HF4.out HRU.out hown1 hk1' hat1)
                    have HFN := Lib.hid (((hf.out.trans HF4.out).alloc (.cells #[.slice Au (knL p (sgn : Int) l k).length cu] 118)).then hk1' (fun i hi e => by have := (own_lt hx.out.ow e).1; omega))
                    clear hown1 hk1' hat1 HXB HX4)
       go_roundw
       case rel => exact ⟨k + 1, _, by go_num, by omega, HN, HFN⟩
       case measure => simp [intOf] <;> omega
     · obtain rfl : k = p.code.length := by omega
       have HRD := Lib.hid (hx.out.rd)
       have HFF := Lib.hid (HF.out.trans hf.out)
       have hsz := Kept.size HF.out
       obtain ⟨A0, c0, rfl, _, _⟩ := own_reads hx.out.ow
       clear hx
       go_wp2
       go_ret2
       refine HDEF.out _ _ HFF.out ⟨_, rfl, ?_⟩
       obtain ⟨A, c, vs', e, hr, hrow⟩ := HRD.out
       exact ⟨A, c, vs', e, hr.more (fun b hb => by omega), fun j hj => let ⟨u, h1, h2⟩ := hrow j hj; ⟨u, h1, h2.more (fun b hb => by omega)⟩⟩
end Go.Proofs.Ytodmkjeankbieab


namespace Go.Proofs.Ytodmkjeankbieab
open Go.RowKit Go.Sort Go.Maps

def filtTo (all : List Fc) (s : Bits) (m : Nat) : List Fc := ((List.range m).filter s).map (fcAt all)
section
variable {all : List Fc} {s : Bits} {m : Nat}
theorem filtTo_z : filtTo all s 0 = [] := rfl
theorem filtTo_s : filtTo all s (m + 1) = filtTo all s m ++ if s m then [fcAt all m] else [] := by
 unfold filtTo
 rw [List.range_succ, List.filter_append, List.map_append]
 cases h : s m <;> simp [h]
theorem filtTo_len : (filtTo all s m).length ≤ m := by
 unfold filtTo
 rw [List.length_map]
 have := List.length_filter_le s (List.range m)
 rwa [List.length_range] at this
theorem filtTo_mem {f : Fc} : f ∈ filtTo all s all.length ↔ setOf all s f := by
 unfold filtTo setOf
 rw [List.mem_map]
 constructor
 · rintro ⟨i, hi, e⟩
   obtain ⟨h1, h2⟩ := List.mem_filter.1 hi
   exact ⟨i, List.mem_range.1 h1, e, h2⟩
 · rintro ⟨i, hi, e, h2⟩
   exact ⟨i, List.mem_filter.2 ⟨List.mem_range.2 hi, h2⟩, e⟩
theorem filtTo_up (h : all.Pairwise aheadF) : ∀ m, m ≤ all.length → (filtTo all s m).Pairwise aheadF
 | 0, _ => List.Pairwise.nil
 | m + 1, hm => by
   rw [filtTo_s]
   refine List.pairwise_append.2 ⟨filtTo_up h m (by omega), by split <;> simp, fun x hx y hy => ?_⟩
   split at hy
   · rw [List.mem_singleton] at hy
     subst hy
     obtain ⟨i, hi, rfl⟩ := List.mem_map.1 hx
     have hi := List.mem_range.1 (List.mem_filter.1 hi).1
     rw [fcAt_get (by omega), fcAt_get (by omega)]
     exact List.pairwise_iff_getElem.1 h i m (by omega) (by omega) hi
   · cases hy
end

def F8Post (w : World) (p : Pg) (sg : Int) (l : Pd) (e : Ending) (w' : World) : Prop := Fr w w' ∧ ∃ v, e = .returned v ∧ RdFF w' (fun b => w.heap.size ≤ b) v p.code.length (knL p sg l)

set_option maxHeartbeats 4000000 in
set_option maxRecDepth 100000 in
theorem facts8_any (R R' : Nat → Prop) (v vl : Value) (p : Pg) (sg : Int) (l : Pd) (w : World) (h : RdPg w R v p) (hL : RdPd w R' vl l) (hm : mayL p sg l = true) :
   Calls Try.prog 38 #[v, tgV sg, vl] w (F8Post w p sg l) := by
 have H := Lib.hid h
 have HL := Lib.hid hL
 obtain ⟨vw, vc, rfl, ⟨A1, c1, rfl, hl1, hr1⟩, ⟨A, c2, rfl, hl2, hr2, ho2⟩⟩ := h
 obtain ⟨vr, lv, rfl, hsl, ⟨Al, cl, rfl, hlr, hrr, hor⟩, hrows⟩ := hL
 clear hr1 hr2 ho2 hrr hor hrows hsl
 have HM := Lib.hid hm
 obtain ⟨m1, m2, m3, m4, m5⟩ := mayL_facts hm
 obtain ⟨t1, t2, t3⟩ := tg_facts m2
 have hpl := (mayB_len m1).2.2.2
 clear hm m1 m2 m5
 obtain ⟨sgn, rfl⟩ : ∃ n : Nat, sg = (n : Int) := ⟨sg.toNat, by omega⟩
 obtain ⟨sl, hsl⟩ : ∃ n : Nat, l.slots = (n : Int) := ⟨l.slots.toNat, by omega⟩
 have HSL := Lib.hid hsl
 have HOF := Lib.hid (fun w3 (hf : Fr w w3) => of8_may R _ p sgn sl l w3 (H.out.kept hf (fun _ _ h => h)) HM.out HSL.out)
 have HLL := Lib.hid (show ∀ w3, Fr w w3 → RdPd w3 R' (.agg #[.int .i64 (sl : Int), .slice Al lv.length cl]) l from fun w3 hf => by rw [← HSL.out]; exact HL.out.kept hf (fun _ _ h => h))
 have HQ := Lib.hid (Q3.start w #[.slice A1 p.wide.length c1, .slice A p.code.length c2] #[.int .i64 (sgn : Int)] #[.int .i64 (sl : Int), .slice Al lv.length cl])
 have HDEF : Hid (∀ (e : Ending) (w' : World), Fr w w' → (∃ v, e = .returned v ∧ RdFF w' (fun b => w.heap.size ≤ b) v p.code.length (knL p sgn l)) → F8Post w p sgn l e w') := fun _ _ hf h => ⟨hf, h⟩
 unfold tgV
 rw [hsl]
 clear hsl m3 m4 HL H
 go_enter Try.func38, Try.ntmps38
 go_wp2_with fail
 refine (HOF.out _ HQ.out.fr).mono ?_
 rintro e w3 ⟨vw8, vc8, Aa, ca, vst, vn, ns, rfl, hW, hC, hvn, f3⟩
 obtain ⟨vw9, vc9, e9, ⟨Aw, cw, rfl, _, _⟩, ⟨Ac, cc, rfl, _, _, _⟩⟩ := id hW.pg
 simp only [Value.agg.injEq, Array.mk.injEq, List.cons.injEq, and_true] at e9
 obtain ⟨rfl, rfl⟩ := e9
 obtain ⟨bs, os, cs, vss, rfl, _, _⟩ := hW.st.ex
 obtain ⟨An, nn, cn, rfl⟩ := hvn
 have f34 : Fr w3 (w3.alloc (.cells #[.slice Aw p.wide.length cw, .slice Ac p.code.length cc, .slice Aa (allFs p ns sgn sl).length ca, .slice (some ⟨bs, os, none⟩) 4 cs, .slice An nn cn] 121)) := (Kept.refl _ w3).alloc _
 have HQ4 := Lib.hid ((HQ.out.keep f3).keep f34)
 have HB8 := Lib.hid (Blk.new w3 121 #[.slice Aw p.wide.length cw, .slice Ac p.code.length cc, .slice Aa (allFs p ns sgn sl).length ca, .slice (some ⟨bs, os, none⟩) 4 cs, .slice An nn cn])
 have HST := Lib.hid (sets8_any _ _ _ Aa ca _ _ p ns sgn sl R' _ l _ (hW.fr f34) hC (HLL.out _ HQ4.out.fr) HM.out HSL.out)
 have HALL := Lib.hid ((hW.fr f34).all)
 have HUP := Lib.hid (allFs_up (sg := sgn) (sl := sl) hC.ns)
 have hlen := hC.len
 clear HQ HOF HLL hW hC f3 f34
 generalize (allFs p ns sgn sl) = all at *
 have s0 := HQ4.out.b2.cell 0
 have s1 := HQ4.out.b2.cell 1
 have z2 := HQ4.out.b2.lt
 simp only [List.getElem?_toArray, List.getElem?_cons_succ, List.getElem?_cons_zero] at s0 s1
 go_wp2_with fail
 refine HST.out.mono ?_
 rintro e w5 ⟨g, gc, bk, S, c, tk, rfl, hbg, hbc, hbk, ⟨hcm1, hcm2, _⟩, f5⟩
 have HF := Lib.hid (HQ4.out.fr.trans f5)
 have HBW := Lib.hid (HB8.out.kept f5 (fun h => h))
 have HAL := Lib.hid (HALL.out.kept f5 (fun _ _ h => h))
 have HG := Lib.hid hbg
 have HGC := Lib.hid hbc
 have HBK := Lib.hid hbk
 have HC1 := Lib.hid hcm1
 have HC2 := Lib.hid hcm2
 have HR0 := Lib.hid (RowsF.nil w5 w5 (knL p (sgn : Int) l))
 have HF0 := Lib.hid (Kept.refl (fun _ => False) w5)
 clear HST HB8 HALL HQ4 f5 hbg hbc hbk hcm1 hcm2 s0 s1 z2
 go_wp2
 go_loopw [11, 12] (fun vo i wr => ∃ (k : Nat) (xs : List Value), i = .int .i64 (k : Int) ∧ k ≤ p.code.length ∧ Hid (RowsF w5 wr vo k (knL p (sgn : Int) l) xs) ∧ Hid (Fr w5 wr)) (fun _ i _ => p.code.length - (intOf i).toNat)
 case atStart => exact ⟨0, [], rfl, Nat.zero_le _, HR0, HF0⟩
 case round =>

   obtain ⟨k, xs, rfl, hk, hx, hf⟩ := hrel
   clear HR0 HF0
   obtain ⟨wo, rfl⟩ : ∃ wo : World, wo = wr := ⟨_, rfl⟩
   have hk0 : (0 : Int) ≤ (k : Int) := Int.natCast_nonneg _
   by_cases hkl : k < p.code.length
   · have hk1 : (k : Int) < (p.code.length : Int) := by omega
     obtain ⟨A0, c0, rfl, _, _⟩ := own_reads hx.out.ow
     have HO0 := Lib.hid (show wo.ownsRow wo.heap.size 140 5 (.slice none 0 0) (filtTo all (S k) 0).length ((filtTo all (S k) 0).flatMap Fc.cellL) from World.ownsRow_nil _ _ _ _)
     have HFR0 := Lib.hid (Kept.refl (fun _ => False) wo)
     cases hck : c k with
     | false =>
       have HCK := Lib.hid hck
       have HKL := Lib.hid (show knL p (sgn : Int) l k = filtTo all (S k) 0 from canon_eq List.Pairwise.nil fun f => ⟨fun h => by simp [filtTo_z] at h, fun h => by have := (HC2.out k h.1).1; rw [HCK.out] at this; cases this⟩)
       have HLE := Lib.hid (show (knL p (sgn : Int) l k).length ≤ 2400 from by rw [HKL.out]; simp [filtTo_z])
       rw [← HKL.out] at HO0
       clear hck
       go_wp2
       go_loopw [13, 14] (fun vr i wr => i = .int .i64 0 ∧ Hid (wr.ownsRow wo.heap.size 140 5 vr (knL p (sgn : Int) l k).length ((knL p (sgn : Int) l k).flatMap Fc.cellL)) ∧ Hid (Fr wo wr)) (fun _ _ _ => 0)
       case atStart => exact ⟨rfl, HO0, HFR0⟩
       case round =>
         obtain ⟨vr, rfl⟩ : ∃ x : Value, x = u13 := ⟨_, rfl⟩
         obtain ⟨rfl, hrow, hf2⟩ := hrel
         clear HO0 HFR0
         have hfa := hf.out.trans hf2.out
         have q2 := (HBW.out.kept hfa (fun h => h)).cell 2
         have zq := (HBW.out.kept hfa (fun h => h)).lt
         simp only [List.getElem?_toArray, List.getElem?_cons_succ, List.getElem?_cons_zero] at q2
         have u1 := (HGC.out.kept hfa (fun h => h)).bcell hkl
         have zc := (HGC.out.kept hfa (fun h => h)).lt
         rw [HCK.out] at u1
         clear hfa
         have HKL2 := HKL
         replace HKL := Lib.hid (rfl : knL p (sgn : Int) l k = knL p (sgn : Int) l k)
         by_cases h0 : 0 < all.length
         · have h0' : (0 : Int) < (all.length : Int) := by omega
           have HRU := Lib.hid (show RdF wr (fun b => wo.heap.size ≤ b) vr (knL p (sgn : Int) l k) from by
             rw [HKL.out]
             obtain ⟨A, c, e, _, hr⟩ := own_reads hrow.out
             exact ⟨A, c, e, HLE.out, hr.more (fun b hb => hb.1)⟩)
           obtain ⟨Au, cu, rfl, _⟩ := id HRU.out
           have HX4 := Lib.hid (hx.out.fr hf2.out)
           have hwsz := Kept.size hf.out
           have hsz4 := Kept.size hf2.out
           have HXB := Lib.hid (own_kept HX4.out.ow ((Kept.refl (fun _ => False) wr).alloc (.cells #[.slice Au (knL p (sgn : Int) l k).length cu] 118)) (fun _ _ h => h))
           clear hrow
           go_wp2_with (at_builtin
                        refine wpList_app (base := w5.heap.size) _ rfl slFFs (.tmp 61) (.tmp 63) rfl (.slice A0 k c0) k _ rfl HXB.out (fun _ => True) _ 1 1 [.slice Au (knL p (sgn : Int) l k).length cu] rfl (Reads.lit' (by simp) trivial rfl) ?_ ?_ ?_ ?_ ?_
                        · simp [Value.oneCell']
                        · omega
                        · unfold maxLen; omega
                        · simp; omega
                        intro v1 w6 hown1 hk1' hat1
                        have HN := Lib.hid (hx.out.snoc hwsz hf2.out HRU.out hown1 hk1' hat1)
                        have HFN := Lib.hid (((hf.out.trans hf2.out).alloc (.cells #[.slice Au (knL p (sgn : Int) l k).length cu] 118)).then hk1' (fun i hi e => by have := (own_lt hx.out.ow e).1; omega))
                        clear hown1 hk1' hat1 HXB HX4)
           go_roundw
           case rel => exact ⟨k + 1, _, by go_num, by omega, HN, HFN⟩
           case measure => simp [intOf] <;> omega
         · have h0' : ¬ (0 : Int) < (all.length : Int) := by omega
           have HRU := Lib.hid (show RdF wr (fun b => wo.heap.size ≤ b) vr (knL p (sgn : Int) l k) from by
             rw [HKL.out]
             obtain ⟨A, c, e, _, hr⟩ := own_reads hrow.out
             exact ⟨A, c, e, HLE.out, hr.more (fun b hb => hb.1)⟩)
           obtain ⟨Au, cu, rfl, _⟩ := id HRU.out
           have HX4 := Lib.hid (hx.out.fr hf2.out)
           have hwsz := Kept.size hf.out
           have hsz4 := Kept.size hf2.out
           have HXB := Lib.hid (own_kept HX4.out.ow ((Kept.refl (fun _ => False) wr).alloc (.cells #[.slice Au (knL p (sgn : Int) l k).length cu] 118)) (fun _ _ h => h))
           clear hrow
           go_wp2_with (at_builtin
                        refine wpList_app (base := w5.heap.size) _ rfl slFFs (.tmp 61) (.tmp 63) rfl (.slice A0 k c0) k _ rfl HXB.out (fun _ => True) _ 1 1 [.slice Au (knL p (sgn : Int) l k).length cu] rfl (Reads.lit' (by simp) trivial rfl) ?_ ?_ ?_ ?_ ?_
                        · simp [Value.oneCell']
                        · omega
                        · unfold maxLen; omega
                        · simp; omega
                        intro v1 w6 hown1 hk1' hat1
                        have HN := Lib.hid (hx.out.snoc hwsz hf2.out HRU.out hown1 hk1' hat1)
                        have HFN := Lib.hid (((hf.out.trans hf2.out).alloc (.cells #[.slice Au (knL p (sgn : Int) l k).length cu] 118)).then hk1' (fun i hi e => by have := (own_lt hx.out.ow e).1; omega))
                        clear hown1 hk1' hat1 HXB HX4)
           go_roundw
           case rel => exact ⟨k + 1, _, by go_num, by omega, HN, HFN⟩
           case measure => simp [intOf] <;> omega
     | true =>
       have HCK := Lib.hid hck
       have HKL := Lib.hid (show knL p (sgn : Int) l k = filtTo all (S k) all.length from canon_eq (filtTo_up HUP.out _ (Nat.le_refl _)) fun f => by
         rw [filtTo_mem, (HC2.out k (HC1.out k hkl HCK.out)).2]
         exact ⟨fun h => ⟨HC1.out k hkl HCK.out, h⟩, fun h => h.2⟩)
       have HLE := Lib.hid (show (filtTo all (S k) all.length).length ≤ 2400 from Nat.le_trans filtTo_len hlen)
       clear hck
       go_wp2
       go_loopw [13, 14] (fun vr i wr => ∃ m : Nat, i = .int .i64 (m : Int) ∧ m ≤ all.length ∧ Hid (wr.ownsRow wo.heap.size 140 5 vr (filtTo all (S k) m).length ((filtTo all (S k) m).flatMap Fc.cellL)) ∧ Hid (Fr wo wr)) (fun _ i _ => all.length - (intOf i).toNat)
       case atStart => exact ⟨0, rfl, Nat.zero_le _, HO0, HFR0⟩
       case round =>
         obtain ⟨vr, rfl⟩ : ∃ x : Value, x = u13 := ⟨_, rfl⟩
         obtain ⟨m, rfl, hm, hrow, hf2⟩ := hrel
         clear HO0 HFR0
         have hfa := hf.out.trans hf2.out
         have q2 := (HBW.out.kept hfa (fun h => h)).cell 2
         have zq := (HBW.out.kept hfa (fun h => h)).lt
         simp only [List.getElem?_toArray, List.getElem?_cons_succ, List.getElem?_cons_zero] at q2
         have u1 := (HGC.out.kept hfa (fun h => h)).bcell hkl
         have zc := (HGC.out.kept hfa (fun h => h)).lt
         rw [HCK.out] at u1
         have hm0 : (0 : Int) ≤ (m : Int) := Int.natCast_nonneg _
         by_cases hml : m < all.length
         · have hm1 : (m : Int) < (all.length : Int) := by omega
           have g1 := (HG.out.kept hfa (fun h => h)).cell k
           rw [mkS_at hkl] at g1
           unfold rowV at g1
           have zg := (HG.out.kept hfa (fun h => h)).lt
           have b1 := ((HBK.out k hkl).kept hfa (fun h => h)).bcell hml
           have zb := ((HBK.out k hkl).kept hfa (fun h => h)).lt
           obtain ⟨ba, oa, rfl, _, d0, d1, d2, d3, d4⟩ := (HAL.out.kept hfa (fun _ _ h => h)).fc hml
           have zba := cell_lt d0
           have hln := filtTo_len (all := all) (s := S k) (m := m)
           have HFS := Lib.hid (filtTo_s (all := all) (s := S k) (m := m))
           clear hfa
           cases hs : S k m with
           | false =>
             have HN := Lib.hid (show wr.ownsRow wo.heap.size 140 5 vr (filtTo all (S k) (m + 1)).length ((filtTo all (S k) (m + 1)).flatMap Fc.cellL) from by rw [HFS.out, hs]; simpa using hrow.out)
             rw [hs] at b1
             clear hs hrow HFS
             go_wp2
             go_roundw
             case rel => exact ⟨m + 1, by go_num, by omega, HN, hf2⟩
             case measure => simp [intOf] <;> omega
           | true =>
             have hfl : filtTo all (S k) (m + 1) = filtTo all (S k) m ++ [fcAt all m] := by rw [HFS.out, hs]; simp
             rw [hs] at b1
             clear hs HFS
             have HFL := Lib.hid (show (filtTo all (S k) (m + 1)).flatMap Fc.cellL = (filtTo all (S k) m).flatMap Fc.cellL ++ [.int .i64 (fcAt all m).pl.k, .int .i64 (fcAt all m).pl.n, .bool (fcAt all m).temp, .int .i64 (fcAt all m).t, .int .u32 ((fcAt all m).n : Int)] from by rw [hfl]; exact flatL_snoc _ _)
             have HLL := Lib.hid (show (filtTo all (S k) (m + 1)).length = (filtTo all (S k) m).length + 1 from by rw [hfl]; simp)
             clear hfl
             obtain ⟨Av, cv, rfl, _, _⟩ := own_reads hrow.out
             generalize fcAt all m = x at *
             have hsz2 := Kept.size hf2.out
             have HXO := Lib.hid (own_kept hrow.out ((Kept.refl (fun _ => False) wr).alloc (.cells #[.int .i64 x.pl.k, .int .i64 x.pl.n, .bool x.temp, .int .i64 x.t, .int .u32 (x.n : Int)] 140)) (fun _ _ h => h))
             go_wp2_with (at_builtin
                          refine wpList_app (base := wo.heap.size) _ rfl slFacts (.tmp 53) (.tmp 59) rfl (.slice Av (filtTo all (S k) m).length cv) (filtTo all (S k) m).length _ rfl HXO.out (fun _ => True) _ 1 1 [.int .i64 x.pl.k, .int .i64 x.pl.n, .bool x.temp, .int .i64 x.t, .int .u32 (x.n : Int)] rfl (Reads.lit' (by simp) trivial rfl) ?_ ?_ ?_ ?_ ?_
                          · simp [Value.oneCell']
                          · omega
                          · unfold maxLen; omega
                          · simp; omega
                          intro v1 w6 hown1 hk1' hat1
                          have HN := Lib.hid (show w6.ownsRow wo.heap.size 140 5 v1 (filtTo all (S k) (m + 1)).length ((filtTo all (S k) (m + 1)).flatMap Fc.cellL) from by rw [HLL.out, HFL.out]; exact hown1)
                          have HF6 := Lib.hid ((hf2.out.alloc (.cells #[.int .i64 x.pl.k, .int .i64 x.pl.n, .bool x.temp, .int .i64 x.t, .int .u32 (x.n : Int)] 140)).then hk1' (fun i hi e => by have := (own_lt hrow.out e).1; omega))
                          clear hown1 hk1' hat1 HXO)
             go_roundw
             case rel => exact ⟨m + 1, by go_num, by omega, HN, HF6⟩
             case measure => simp [intOf] <;> omega
         · obtain rfl : m = all.length := by omega
           clear hfa
           have HRU := Lib.hid (show RdF wr (fun b => wo.heap.size ≤ b) vr (knL p (sgn : Int) l k) from by
             rw [HKL.out]
             obtain ⟨A, c, e, _, hr⟩ := own_reads hrow.out
             exact ⟨A, c, e, HLE.out, hr.more (fun b hb => hb.1)⟩)
           obtain ⟨Au, cu, rfl, _⟩ := id HRU.out
           have HX4 := Lib.hid (hx.out.fr hf2.out)
           have hwsz := Kept.size hf.out
           have hsz4 := Kept.size hf2.out
           have HXB := Lib.hid (own_kept HX4.out.ow ((Kept.refl (fun _ => False) wr).alloc (.cells #[.slice Au (knL p (sgn : Int) l k).length cu] 118)) (fun _ _ h => h))
           clear hrow
           go_wp2_with (at_builtin
                        refine wpList_app (base := w5.heap.size) _ rfl slFFs (.tmp 61) (.tmp 63) rfl (.slice A0 k c0) k _ rfl HXB.out (fun _ => True) _ 1 1 [.slice Au (knL p (sgn : Int) l k).length cu] rfl (Reads.lit' (by simp) trivial rfl) ?_ ?_ ?_ ?_ ?_
                        · simp [Value.oneCell']
                        · omega
                        · unfold maxLen; omega
                        · simp; omega
                        intro v1 w6 hown1 hk1' hat1
                        have HN := Lib.hid (hx.out.snoc hwsz hf2.out HRU.out hown1 hk1' hat1)
                        have HFN := Lib.hid (((hf.out.trans hf2.out).alloc (.cells #[.slice Au (knL p (sgn : Int) l k).length cu] 118)).then hk1' (fun i hi e => by have := (own_lt hx.out.ow e).1; omega))
                        clear hown1 hk1' hat1 HXB HX4)
           go_roundw
           case rel => exact ⟨k + 1, _, by go_num, by omega, HN, HFN⟩
           case measure => simp [intOf] <;> omega
   · obtain rfl : k = p.code.length := by omega
     have HRD := Lib.hid (hx.out.rd)
     have HFF := Lib.hid (HF.out.trans hf.out)
     have hsz := Kept.size HF.out
     obtain ⟨A0, c0, rfl, _, _⟩ := own_reads hx.out.ow
     clear hx
     go_wp2
     go_ret
     refine HDEF.out _ _ HFF.out ⟨_, rfl, ?_⟩
     obtain ⟨A, c, vs', e, hr, hrow⟩ := HRD.out
     exact ⟨A, c, vs', e, hr.more (fun b hb => by omega), fun j hj => let ⟨u, h1, h2⟩ := hrow j hj; ⟨u, h1, h2.more (fun b hb => by omega)⟩⟩
end Go.Proofs.Ytodmkjeankbieab


namespace Go.Proofs.Ytodmkjeankbieab
open Go.RowKit Go.Sort Go.Maps

theorem neq_fc (a : Fc) (w : World) : (binOp .neq 140 (.agg #[.int .i64 a.pl.k, .int .i64 a.pl.n, .bool a.temp, .int .i64 a.t, .int .u32 (a.n : Int)]) (.agg #[.int .i64 a.pl.k, .int .i64 a.pl.n, .bool a.temp, .int .i64 a.t, .int .u32 (a.n : Int)])).run Try.prog w = .ok (.bool false) w := by
 go_simp

set_option maxHeartbeats 4000000 in
set_option maxRecDepth 100000 in
theorem same8_any (R1 R2 : Nat → Prop) (v1 v2 : Value) (n : Nat) (M : Nat → List Fc) (w : World) (h1 : RdFF w R1 v1 n M) (h2 : RdFF w R2 v2 n M) (hn : n ≤ 100) :
   Calls Try.prog 37 #[v1, v2] w fun e w' => e = .returned (.bool true) ∧ Fr w w' := by
 have H1 := Lib.hid h1
 have H2 := Lib.hid h2
 obtain ⟨A1, c1, vs1, rfl, _, _⟩ := h1
 obtain ⟨A2, c2, vs2, rfl, _, _⟩ := h2
 have HF0 := Lib.hid (Kept.refl (fun _ => False) w)
 go_enter Try.func37, Try.ntmps37
 go_wp2
 go_loopw [5] (fun i wr => ∃ k : Nat, i = .int .i64 (k : Int) ∧ k ≤ n ∧ Hid (Fr w wr)) (fun i _ => n - (intOf i).toNat)
 case atStart => exact ⟨0, rfl, Nat.zero_le _, HF0⟩
 case round =>
   obtain ⟨k, rfl, hk, hf⟩ := hrel
   clear HF0
   have hk0 : (0 : Int) ≤ (k : Int) := Int.natCast_nonneg _
   by_cases hkn : k < n
   · have hk1 : (k : Int) < (n : Int) := by omega
     obtain ⟨x1, y1, us1, e1, hr1, hrow1⟩ := H1.out
     obtain ⟨x2, y2, us2, e2, hr2, hrow2⟩ := H2.out
     obtain ⟨rfl, rfl⟩ : A1 = x1 ∧ c1 = y1 := by simpa using e1
     obtain ⟨rfl, rfl⟩ : A2 = x2 ∧ c2 = y2 := by simpa using e2
     obtain ⟨b1, o1, rfl, _, hc1⟩ := hr1.2 (by omega)
     obtain ⟨b2, o2, rfl, _, hc2⟩ := hr2.2 (by omega)
     obtain ⟨u1, hu1, hl1⟩ := hrow1 k hkn
     obtain ⟨u2, hu2, hl2⟩ := hrow2 k hkn
     have p1 := hc1 k u1 hu1
     have p2 := hc2 k u2 hu2
     obtain ⟨B1, d1, rfl, hL, hq1⟩ := hl1
     obtain ⟨B2, d2, rfl, _, hq2⟩ := hl2
     have P1 := Lib.hid (fun w2 (hk2 : Fr w w2) => (Kept.cell hk2 (cell_lt p1) (fun h => h)).trans p1)
     have P2 := Lib.hid (fun w2 (hk2 : Fr w w2) => (Kept.cell hk2 (cell_lt p2) (fun h => h)).trans p2)
     have Q1 := Lib.hid hq1
     have Q2 := Lib.hid hq2
     have p1 := P1.out _ hf.out
     have p2 := P2.out _ hf.out
     have zb1 := cell_lt p1
     have zb2 := cell_lt p2
     clear e1 e2 hr1 hrow1 hr2 hrow2 hc1 hc2 hu1 hu2 hq1 hq2
     generalize M k = L at *
     go_wp2
     go_quiet (fail)
     have HF2 := Lib.hid (hf.out.drewN nq)
     clear hf p1 p2 zb1 zb2
     generalize wr.drewN nq = w3 at *
     go_wp2
     go_loopw [6] (fun i wr2 => ∃ j : Nat, i = .int .i64 (j : Int) ∧ j ≤ L.length ∧ Hid (Fr w wr2)) (fun i _ => L.length - (intOf i).toNat)
     case atStart => exact ⟨0, rfl, Nat.zero_le _, HF2⟩
     case round =>
       rename_i wr2
       obtain ⟨j, rfl, hj, hf2⟩ := hrel
       clear HF2
       have hj0 : (0 : Int) ≤ (j : Int) := Int.natCast_nonneg _
       have p1 := P1.out _ hf2.out
       have p2 := P2.out _ hf2.out
       have zb1 := cell_lt p1
       have zb2 := cell_lt p2
       by_cases hjl : j < L.length
       · have hj1 : (j : Int) < (L.length : Int) := by omega
         obtain ⟨ba, oa, rfl, _, a0, a1, a2, a3, a4⟩ := (Q1.out.kept hf2.out (fun _ _ h => h)).fc hjl
         obtain ⟨bb, ob, rfl, _, b0, b1, b2, b3, b4⟩ := (Q2.out.kept hf2.out (fun _ _ h => h)).fc hjl
         have za := cell_lt a0
         have zb := cell_lt b0
         have hne := neq_fc (fcAt L j)
         generalize fcAt L j = x at *
         obtain ⟨⟨xk, xn⟩, xt, xT, xN⟩ := x
         simp only at a0 a1 a2 a3 a4 b0 b1 b2 b3 b4 hne
         go_wp2
         go_quiet (fail)
         go_wp2
         go_roundw
         case rel => exact ⟨j + 1, by go_num, by omega, Lib.hid (hf2.out.drewN nq)⟩
         case measure => simp [intOf] <;> omega
       · obtain rfl : j = L.length := by omega
         go_wp2
         go_roundw
         case rel => exact ⟨k + 1, by go_num, by omega, hf2⟩
         case measure => simp [intOf] <;> omega
   · obtain rfl : k = n := by omega
     go_wp2
     go_ret
     exact ⟨rfl, hf.out⟩
end Go.Proofs.Ytodmkjeankbieab

