/- Texts of this claim, packed. -/
import Derived.Test.YtodmkjeankbieaaGreatDoorKAllk13
import Derived.Deep.DrawnRows
set_option linter.all false
namespace Go.Proofs.YtodmkjeankbieaaGreatDoor
open Go.RowKit Go.Sort Go.Maps
attribute [local go_sem ↓] Go.wp_at_zero Go.wp_at_succ

theorem infoSet : (Tryz.prog.info? 133).map (fun i => (i.zero, i.size, i.bytes)) = some (some (.map none), 1, 8) := by kernel_rfl
theorem run_make_sets (n : Nat) (h : n ≤ 1000000) (w : World) : (Instr.makeSlice 88 (.int .i64 (n : Int)) (.int .i64 (n : Int))).run Tryz.prog w = .ok (.slice (some ⟨w.heap.size, 0, none⟩) n n) (w.alloc (.cells (mkS n fun _ => .map none) 133)) := by
 rw [← made_mkS]
 exact run_make_row' 88 133 (.map none) 8 Tryz.underlying88 infoSet rfl .i64 .i64 n (by omega) (by omega) w

theorem eqNil0 (w : World) : (binOp .eql 133 (.map none) (.map none)).run Tryz.prog w = .ok (.bool true) w := run_eql_map_nil w _ _ _ none Tryz.underlying133
theorem eqNil1 (b : Nat) (w : World) : (binOp .eql 133 (.map (some b)) (.map none)).run Tryz.prog w = .ok (.bool false) w := run_eql_map_nil w _ _ _ (some b) Tryz.underlying133
theorem neNil0 (w : World) : (binOp .neq 133 (.map none) (.map none)).run Tryz.prog w = .ok (.bool false) w := run_neq_map_nil w _ _ _ none Tryz.underlying133
theorem neNil1 (b : Nat) (w : World) : (binOp .neq 133 (.map (some b)) (.map none)).run Tryz.prog w = .ok (.bool true) w := run_neq_map_nil w _ _ _ (some b) Tryz.underlying133
theorem sumN_const (n m : Nat) : sumN n (fun _ => m) = n * m := by
 induction n with
 | zero => simp [sumN]
 | succ n ih => rw [sumN_s, ih, Nat.succ_mul]
theorem workM_le {p : Pg} {sg sl : Nat} {ns : List Nat} (hC : FCnd p sg sl ns) (A : Nat → Option FS) (wk : List Nat) : workM p sg sl A wk ≤ 192080 + wk.length := by
 have hf := factsL_len (p := p) (sg := sg) (sl := sl) hC.w hC.c hC.s hC.l
 have h1 : sumN p.code.length (fun k => potF p sg sl (A k)) ≤ sumN p.code.length (fun _ => 2401) := sumN_le fun k _ => by
   unfold potF
   cases A k with
   | none => simp only; omega
   | some S => simp only; have := cntF_all (p := p) (sg := sg) (sl := sl) (S := S); omega
 rw [sumN_const] at h1
 have h2 : p.code.length * 2401 ≤ 40 * 2401 := Nat.mul_le_mul_right _ hC.c
 unfold workM
 omega
theorem wk_le {p : Pg} {sg sl : Nat} {A : Nat → Option FS} {wk : List Nat} : wk.length ≤ workM p sg sl A wk := by unfold workM; omega

def ThruK (w : World) (b : Nat) (p : Pg) (l : Pd) (k : Nat) (S : FS) (e : Ending) (w' : World) : Prop := ∃ (b' : Nat) (ok : Bool), e = .returned (.tuple #[.map (some b'), .bool ok]) ∧ FSet w' b' 2400 (thru p l k S) ∧ (ok = true ↔ tookF p S (inAt p.code k) (rwAt l.rows k)) ∧ Fr w w'
theorem ThruPost.k {w : World} {b : Nat} {p : Pg} {l : Pd} {k : Nat} {S : FS} {r : Rw} (he : rwAt l.rows k = r) {e : Ending} {w' : World} (h : ThruPost w b p S (inAt p.code k) r e w') : ThruK w b p l k S e w' := by
 subst he
 obtain ⟨b', ok, h1, h2, h3, h4, _⟩ := h
 exact ⟨b', ok, h1, h2, h3, h4⟩
theorem fnx_of {p : Pg} {k nn x : Nat} (hx : (nexts (inAt p.code k) k)[x]? = some (nn : Int)) (h : nn < p.code.length) : ((nn : Int)).toNat ∈ nx p.code k := by
 unfold nx
 refine List.mem_filter.2 ⟨List.mem_map.2 ⟨_, List.mem_of_getElem? hx, rfl⟩, by simpa using h⟩

structure WkI (w wr : World) (cl : Array Value) (g0 : Nat) (p : Pg) (sg sl : Nat) (l : Pd) (qv : Value) (M : Nat) : Prop where
 ex : ∃ vs A wk, AllMem w wr cl g0 p.code.length vs A qv wk ∧ Work p sg l A wk ∧ AllIn p sg sl A ∧ workM p sg sl A wk ≤ M
structure MdI (w wr : World) (cl : Array Value) (g0 : Nat) (p : Pg) (sg sl : Nat) (l : Pd) (k : Nat) (s0 : FS) (x : Nat) (qv : Value) (M : Nat) : Prop where
 ex : ∃ vs A wk, AllMem w wr cl g0 p.code.length vs A qv wk ∧ Mid p sg l A wk k s0 (nexts (inAt p.code k) k) x ∧ AllIn p sg sl A ∧ workM p sg sl A wk ≤ M

set_option maxHeartbeats 16000000 in
set_option maxRecDepth 100000 in
theorem all_any (gw : Nat) (R R' : Nat → Prop) (p : Pg) (sg sl : Nat) (ns : List Nat) (A : Option Addr) (c : Nat) (A' : Option Addr) (c' : Nat) (Ap : Option Addr) (cp : Nat) (An : Option Addr) (cn : Nat) (v : Value) (l : Pd) (w : World)
   (hW : FWd w gw R p sg sl ns A c A' c' (.slice Ap (placesL sg sl).length cp) An cn) (hC : FCnd p sg sl ns) (hL : RdPd w R' v l) (hm : mayL p sg l = true) (hsl : l.slots = (sl : Int)) (hR : ∀ x, R x → x < w.heap.size) :
   Calls Tryz.prog 32 #[.pointer (some ⟨gw, 0, none⟩), v] w (AllPost w p sg l) := by
 obtain ⟨vr, lv, rfl, hsli, ⟨Ar, cr, rfl, hlr, hrr, hor⟩, hrows⟩ := hL
 obtain ⟨m1, m2, m3, m4, m5⟩ := mayL_facts hm
 have hlen : lv.length = p.code.length := by rw [← m5, hrows]; simp
 have zg := hW.wb.lt
 have hcl := hC.c
 have hc1 := hC.c1
 have HOKI := Lib.hid (show ∀ i ∈ p.code, i.n < 4294967296 from by
   obtain ⟨_, _, e, _, ⟨_, _, e2, _, _, ho⟩⟩ := hW.pg
   exact fun i hi => (ho i hi).2.2.2.2.2)
 have HRC := Lib.hid (fun k x (hk : k < p.code.length) (hx : lv[k]? = some x) => rowCnd (sg := sg) (sl := sl) hm hsl HOKI.out hrows (fun y hy => ⟨fun m hmm => let ⟨_, _, _, _, _, h⟩ := (hor y hy).2.2.2.1; (h m hmm).2.2, fun m hmm => let ⟨_, _, _, _, _, h⟩ := (hor y hy).2.2.2.2; (h m hmm).2.2⟩) hk hx)
 have HTH := Lib.hid (fun k x b S w2 (hk : k < p.code.length) (hx : lv[k]? = some x) (hf : Fr w w2) (hs : FSet w2 b 2400 S) (hu : InU p sg sl S) =>
   (through_any gw R R' p sg sl ns A c A' c' _ An cn b S (inAt p.code k) x w2 (hW.fr hf) hs hu hC ((hor x (List.mem_of_getElem? hx)).kept hf (fun _ _ h => h)) (HRC.out k x hk hx) (fun y hy => Nat.lt_of_lt_of_le (hR y hy) hf.size)).mono fun e w' h => ThruPost.k (l := l) (rwAt_of hrows hx) h)
 have HBG := Lib.hid (fun w2 (hf : Fr w w2) => begin_any gw R p sg sl ns A c A' c' Ap cp An cn w2 (hW.fr hf) hC)
 have HTI := Lib.hid (fun k S (hk : k < p.code.length) (hu : InU p sg sl S) => thru_in (k := k) (S := S) hm hsl hk hu)
 have HNX := Lib.hid (fun k w2 (hk : k < p.code.length) => Nexts_any (inAt p.code k) k w2 (by omega) (by omega))
 have HNP := Lib.hid (fun k n (hk : k < p.code.length) (hn : n ∈ nexts (inAt p.code k) k) => nexts_pos (HRC.out k lv[k] hk (List.getElem?_eq_getElem (by omega))).ok hn)
 have HW := Lib.hid hW
 have HRW := Lib.hid hrr
 have HC := Lib.hid hC
 have HPC := Lib.hid (show Reads w R 6 A' p.code.length (p.code.flatMap In.cells) from by
   obtain ⟨vw2, vc2, e, _, ⟨A2, c2, e2, _, hr2, _⟩⟩ := hW.pg
   simp only [Value.agg.injEq, Array.mk.injEq, List.cons.injEq, and_true] at e
   obtain ⟨_, rfl⟩ := e
   simp only [Value.slice.injEq] at e2
   obtain ⟨rfl, _⟩ := e2
   exact hr2)
 have hmk := run_make_sets p.code.length (by omega)
 have HW0 := Lib.hid (Work.start (p := p) (sg := (sg : Int)) (l := l))
 have HF0 := Lib.hid (show Fr w (w.alloc (.cells #[.int .i64 l.slots, .slice Ar lv.length cr] 55)) from (Kept.refl _ w).alloc _)
 have HL0 := Lib.hid (Blk.new w 55 #[.int .i64 l.slots, .slice Ar lv.length cr])
 have q1 := (hW.wb.alloc (.cells #[.int .i64 l.slots, .slice Ar lv.length cr] 55)).cell 1
 simp only [List.getElem?_toArray, List.getElem?_cons_succ, List.getElem?_cons_zero] at q1
 rw [hlen] at HF0 HL0 q1 ⊢
 rw [hsl] at HW0
 have HBI := Lib.hid (show AllIn p sg sl (fun k => if k = 0 then some (beginF p (sg : Int) (sl : Int)) else none) from fun k S hk => by
   by_cases e : k = 0
   · subst e; simp only [if_true, Option.some.injEq] at hk; subst hk; exact fun f hf => hf.1
   · simp only [if_neg e] at hk; cases hk)
 clear hW hor hrr hrows hR hm hsl hsli m1 m2 m3 m4 m5 hlr hC
 go_enter Tryz.func32, Tryz.ntmps32
 go_wp2_with fail
 refine (HBG.out _ (HF0.out.alloc _)).mono ?_
 rintro e w1 ⟨b0, rfl, s1, f1, h1⟩
 have HF1 := Lib.hid ((HF0.out.alloc _).trans f1)
 have hob := (Blk.new (w.alloc (.cells #[.int .i64 l.slots, .slice Ar p.code.length cr] 55)) 133 (mkS p.code.length fun _ => .map none)).kept f1 (fun h => h)
 have hlb := (HL0.out.alloc (.cells (mkS p.code.length fun _ => .map none) 133)).kept f1 (fun h => h)
 simp only [World.size_alloc] at hob h1
 have HA0 := Lib.hid (show AllMem w ((w1.setCell ⟨w.heap.size + 1, 0, none⟩ (.map (some b0))).alloc (.cells #[.int .i64 0] 3)) #[.int .i64 l.slots, .slice Ar p.code.length cr] (w.heap.size + 1) p.code.length (fun s => if s = 0 then .map (some b0) else .map none) (fun k => if k = 0 then some (beginF p (sg : Int) (sl : Int)) else none) (.slice (some ⟨w1.heap.size, 0, none⟩) 1 1) [0] from by
   have hk : Kept (fun b => b = w.heap.size + 1) w1 ((w1.setCell ⟨w.heap.size + 1, 0, none⟩ (.map (some b0))).alloc (.cells #[.int .i64 0] 3)) := ((Kept.refl (fun b => b = w.heap.size + 1) w1).setCell (p := ⟨w.heap.size + 1, 0, none⟩) (fun _ => rfl) _).alloc _
   have hz1 := HF1.out.size
   refine ⟨?_, fun k hk2 => ?_, hlb.kept hk (by omega), ?_, HF1.out.then hk (fun i hi e => by omega), by omega⟩
   · have := (hob.set_ 0 (.map (some b0))).alloc (.cells #[.int .i64 0] 3)
     rwa [mkS_set] at this
   · by_cases e : k = 0
     · subst e; exact ⟨b0, rfl, s1.kept hk (s1.ne_blk hob)⟩
     · simp only [if_neg e]; rfl
   · refine QRow.one (by omega) ?_
     have := Blk.new (w1.setCell ⟨w.heap.size + 1, 0, none⟩ (.map (some b0))) 3 #[.int .i64 0]
     simpa using this)
 have HWM := Lib.hid (fun A wk => workM_le HC.out A wk)
 have y0 := hob.frozen 0
 have y1 := hob.cell 0
 rw [mkS_at (by omega)] at y1
 have zob := hob.lt
 clear s1 f1 h1 hob hlb HBG q1 hmk
 go_wp2
 clear y0 y1 zob
 go_loopg [7] 192081 (fun gn qv wr => gn ≤ 192081 ∧ Hid (WkI w wr #[.int .i64 l.slots, .slice Ar p.code.length cr] (w.heap.size + 1) p sg sl l qv gn))
 case atStart => exact ⟨Nat.le_refl _, _, _, _, HA0.out, HW0.out, HBI.out, HWM.out _ _⟩
 case round =>
   obtain ⟨hgk, hwi⟩ := hrel
   obtain ⟨vs, Aq, wk, HM, HWk, HIN, hle⟩ := hwi.out.ex
   clear HA0 HW0 HBI
   cases wk with
   | nil =>
     obtain ⟨gq, oq, cq, _, hqv, _⟩ := id HM.qu
     have hqv : u7 = .slice (some ⟨gq, oq, none⟩) 0 cq := hqv
     subst hqv
     obtain ⟨he1, he2⟩ := HWk.end
     have HEL : Hid (∀ k, k < p.code.length → (Come p.code k → AtV wr (vs k) (some (Kn p sg l k))) ∧ (¬ Come p.code k → vs k = .map none)) := by
       intro k hk
       have hel := HM.el k hk
       refine ⟨fun hc => by rwa [he2 k hc] at hel, fun hc => ?_⟩
       cases hA : Aq k with
       | none => rwa [hA] at hel
       | some s => exact absurd (he1 k s hA).1 hc
     have HUK := Lib.hid (fun k (hc : Come p.code k) => HIN k _ (he2 k hc))
     have HFR := Lib.hid HM.fr
     have HOB := Lib.hid HM.ob
     have HLB := Lib.hid HM.lb
     have zob := HM.ob.lt
     have H0 : Hid (TakenTo p sg l 0) := fun j hj => by omega
     have H0L := Lib.hid (takenTo_all (p := p) (sg := (sg : Int)) (l := l) (by omega))
     clear HM HWk HIN hle hwi he1 he2 HWM
     go_wp2
     obtain ⟨wB, rfl⟩ : ∃ wB : World, wB = wr := ⟨_, rfl⟩
     go_loopw [14, 109] (fun r i wr => ∃ (k : Nat) (x : Bool), k ≤ p.code.length ∧ i = .int .i64 k ∧ r = .bool x ∧ Hid (x = true ↔ TakenTo p sg l k) ∧ Hid (Fr wB wr)) (fun _ i _ => p.code.length - (intOf i).toNat)
     case atStart => exact ⟨0, true, Nat.zero_le _, rfl, rfl, (show Hid _ from iff_of_true rfl H0.out), Lib.hid (Kept.refl _ wB)⟩
     case round =>
       obtain ⟨k, x, hk, rfl, rfl, hx, hf⟩ := hrel
       have y0 := (HOB.out.kept hf.out (fun h => h)).cell k
       have zo := (HOB.out.kept hf.out (fun h => h)).lt
       by_cases hlt : k < p.code.length
       · rw [mkS_at hlt] at y0
         have hk0 : (0 : Int) ≤ (k : Int) := Int.natCast_nonneg _
         have hk1 : (k : Int) < (p.code.length : Int) := by omega
         obtain ⟨hc1, hc2⟩ := HEL.out k hlt
         by_cases hcome : Come p.code k
         · obtain ⟨bk, hvk, hsk⟩ := hc1 hcome
           rw [hvk] at y0
           have heq := neNil1 bk
           have HC2 := Lib.hid hcome
           have hxc : p.code[k]? = some (inAt p.code k) := by rw [inAt_get hlt]; exact List.getElem?_eq_getElem hlt
           obtain ⟨rx, hyr⟩ : ∃ x, lv[k]? = some x := ⟨_, List.getElem?_eq_getElem (by omega)⟩
           have HFW := Lib.hid (HFR.out.trans hf.out)
           have HT := Lib.hid (fun w2 (hf2 : Fr wr w2) => HTH.out k rx bk (Kn p sg l k) w2 hlt hyr (HFW.out.trans hf2) ((hsk.kept hf.out (fun h => h)).kept hf2 (fun h => h)) (HUK.out k hcome))
           obtain ⟨bi, oi, hA', _, i0, i1, i2, i3, i4, i5⟩ := (HPC.out.kept HFW.out (fun _ _ h => h)).ins hxc
           subst hA'
           obtain ⟨br, or_, hAr, _, r0, r1, r2, r3, r4, r5, r6, r7⟩ := (HRW.out.kept HFW.out (fun _ _ h => h)).rw hyr
           subst hAr
           have zbi := cell_lt i0
           have zbr := cell_lt r0
           have y1 := (HLB.out.kept hf.out (fun h => h)).cell 1
           have zlb := (HLB.out.kept hf.out (fun h => h)).lt
           have q1 := (HW.out.fr HFW.out).wb.cell 1
           have zgw := (HW.out.fr HFW.out).wb.lt
           simp only [List.getElem?_toArray, List.getElem?_cons_succ, List.getElem?_cons_zero] at y1 q1
           unfold In.val RwV.val at HT
           have hN := takenTo_s (p := p) (sg := (sg : Int)) (l := l) hcome
           have HNT := Lib.hid hN
           clear hc1 hc2 hvk hsk hcome hxc hyr hN zob
           go_wp2
           go_region_held3 (fun w' => w'.cell? ⟨gw, 1, none⟩ = some (.slice (some ⟨bi, oi, none⟩) p.code.length c') ∧ w'.cell? ⟨bi, oi + k * 6, none⟩ = some (.int .i64 (inAt p.code k).op) ∧ w'.cell? ⟨bi, oi + k * 6 + 1, none⟩ = some (.int .i64 (inAt p.code k).d) ∧ w'.cell? ⟨bi, oi + k * 6 + 2, none⟩ = some (.int .i64 (inAt p.code k).a) ∧ w'.cell? ⟨bi, oi + k * 6 + 3, none⟩ = some (.int .i64 (inAt p.code k).b) ∧ w'.cell? ⟨bi, oi + k * 6 + 4, none⟩ = some (.int .i64 (inAt p.code k).c) ∧ w'.cell? ⟨bi, oi + k * 6 + 5, none⟩ = some (.int .u32 ((inAt p.code k).n : Int)) ∧
               w'.cell? ⟨w.heap.size, 1, none⟩ = some (.slice (some ⟨br, or_, none⟩) p.code.length cr) ∧ w'.cell? ⟨br, or_ + k * 8, none⟩ = some (.int .i64 rx.r.d.k) ∧ w'.cell? ⟨br, or_ + k * 8 + 1, none⟩ = some (.int .i64 rx.r.d.n) ∧ w'.cell? ⟨br, or_ + k * 8 + 2, none⟩ = some (.int .i64 rx.r.a.k) ∧ w'.cell? ⟨br, or_ + k * 8 + 3, none⟩ = some (.int .i64 rx.r.a.n) ∧ w'.cell? ⟨br, or_ + k * 8 + 4, none⟩ = some (.int .i64 rx.r.b.k) ∧ w'.cell? ⟨br, or_ + k * 8 + 5, none⟩ = some (.int .i64 rx.r.b.n) ∧ w'.cell? ⟨br, or_ + k * 8 + 6, none⟩ = some rx.vb ∧ w'.cell? ⟨br, or_ + k * 8 + 7, none⟩ = some rx.va)
             (first
               | go_keep
               | exact sa)
             (first
               | (go_at_call 65; refine (HT.out _ (Kept.refl (fun _ => False) wr).drew).mono ?_; rintro e wb ⟨b2, ok2, rfl, _, hok2, f20⟩; have f2 := (Kept.refl (fun _ => False) wr).drew.trans f20; have sa := And.intro ((f2.cell zgw (fun h => h)).trans q1) (And.intro ((f2.cell zbi (fun h => h)).trans i0) (And.intro ((f2.cell zbi (fun h => h)).trans i1) (And.intro ((f2.cell zbi (fun h => h)).trans i2) (And.intro ((f2.cell zbi (fun h => h)).trans i3) (And.intro ((f2.cell zbi (fun h => h)).trans i4) (And.intro ((f2.cell zbi (fun h => h)).trans i5) (And.intro ((f2.cell zlb (fun h => h)).trans y1) (And.intro ((f2.cell zbr (fun h => h)).trans r0) (And.intro ((f2.cell zbr (fun h => h)).trans r1) (And.intro ((f2.cell zbr (fun h => h)).trans r2) (And.intro ((f2.cell zbr (fun h => h)).trans r3) (And.intro ((f2.cell zbr (fun h => h)).trans r4) (And.intro ((f2.cell zbr (fun h => h)).trans r5) (And.intro ((f2.cell zbr (fun h => h)).trans r6) ((f2.cell zbr (fun h => h)).trans r7)))))))))))))))))
           rename_i hHeld
           clear hHeld
           have HFN := Lib.hid (hf.out.trans f2)
           have HNX2 : Hid ((x && ok2) = true ↔ TakenTo p sg l (k + 1)) := by
             show _ ↔ _
             rw [Bool.and_eq_true, HNT.out, hx.out, hok2]
           clear sa f2 f20 hok2 hx hf HT HNT y0 y1 q1 zo zlb zgw zbi zbr i0 i1 i2 i3 i4 i5 r0 r1 r2 r3 r4 r5 r6 r7 HFW
           cases x
           all_goals
             go_wp2
             go_roundw
             case rel => exact ⟨k + 1, _, by omega, by go_num, rfl, HNX2, HFN⟩
             case measure => simp [intOf]; omega
         · rw [hc2 hcome] at y0
           have heq := neNil0
           have HN : Hid (x = true ↔ TakenTo p sg l (k + 1)) := hx.out.trans (takenTo_no hcome).symm
           clear hc1 hc2 hcome hx
           go_wp2
           go_roundw
           case rel => exact ⟨k + 1, x, by omega, by go_num, rfl, HN, hf⟩
           case measure => simp [intOf]; omega
       · obtain rfl : k = p.code.length := by omega
         clear y0
         have HFIN : Hid (AllPost w p sg l (.returned (.tuple #[.slice (some ⟨w.heap.size + 1, 0, none⟩) p.code.length p.code.length, .bool x])) wr) :=
           ⟨HFR.out.trans hf.out, w.heap.size + 1, vs, x, rfl, by omega, HOB.out.kept hf.out (fun h => h), fun k hk2 => ⟨fun hc => ((HEL.out k hk2).1 hc).fr hf.out, (HEL.out k hk2).2⟩, hx.out.trans H0L.out⟩
         clear hx hf HEL HOB HLB
         go_wp2
         go_ret2
         exact HFIN.out
   | cons k wk =>
     have hqq : QRow wr w.heap.size 3 u7 (Value.int .i64 (k : Int) :: wkVals wk) := HM.qu
     obtain ⟨gq, oq, cq, qv', rfl, hgq, hlq, hmq, hcq, hq', hslq⟩ := hqq.popV slInt'
     have hwl : (wkVals wk).length = wk.length := by unfold wkVals; simp
     have HMP := Lib.hid (HM.popped hq')
     obtain ⟨s0, hs0⟩ : ∃ s0, Aq k = some s0 := by
       cases h : Aq k with
       | none => exact absurd h (HWk.mem k List.mem_cons_self)
       | some s => exact ⟨s, rfl⟩
     have hk : k < p.code.length := (HWk.sup k s0 hs0).1.lt (by omega)
     have hel := HM.el k hk
     rw [hs0] at hel
     obtain ⟨bk, hvk, hsk⟩ := hel
     have HMid := Lib.hid (HWk.pop hs0 (nexts (inAt p.code k) k))
     have HUK := Lib.hid (HIN k s0 hs0)
     have HSK := Lib.hid hsk
     have HIN2 := Lib.hid HIN
     have HLE : Hid (workM p sg sl Aq wk ≤ gk - 1) := by
       have := workM_pop (p := p) (sg := sg) (sl := sl) (A := Aq) (wk := wk) (k := k)
       show _ ≤ _; omega
     have hgk0 : Hid (0 < gk) := by
       have := workM_pop (p := p) (sg := sg) (sl := sl) (A := Aq) (wk := wk) (k := k)
       show 0 < gk; omega
     have y0 := HM.ob.cell k
     rw [mkS_at hk, hvk] at y0
     have zob := HM.ob.lt
     have zlb := HM.lb.lt
     have y1 := HM.lb.cell 1
     have q1 := (HW.out.fr HM.fr).wb.cell 1
     have zgw := (HW.out.fr HM.fr).wb.lt
     simp only [List.getElem?_toArray, List.getElem?_cons_succ, List.getElem?_cons_zero] at y1 q1
     have hx : p.code[k]? = some (inAt p.code k) := by rw [inAt_get hk]; exact List.getElem?_eq_getElem hk
     obtain ⟨x, hy⟩ : ∃ x, lv[k]? = some x := ⟨_, List.getElem?_eq_getElem (by omega)⟩
     have HT := Lib.hid (fun w2 (hf : Fr wr w2) => HTH.out k x bk s0 w2 hk hy (HM.fr.trans hf) (hsk.kept hf (fun h => h)) HUK.out)
     obtain ⟨bi, oi, hA', _, i0, i1, i2, i3, i4, i5⟩ := (HPC.out.kept HM.fr (fun _ _ h => h)).ins hx
     subst hA'
     obtain ⟨br, or_, hAr, _, r0, r1, r2, r3, r4, r5, r6, r7⟩ := (HRW.out.kept HM.fr (fun _ _ h => h)).rw hy
     subst hAr
     have zbi := cell_lt i0
     have zbr := cell_lt r0
     have HXX := Lib.hid hx
     have HFR := Lib.hid HM.fr
     unfold In.val RwV.val at HT
     simp only [hwl] at hslq hlq ⊢
     have hk0 : (0 : Int) ≤ (k : Int) := Int.natCast_nonneg _
     have hk1 : (k : Int) < (p.code.length : Int) := by omega
     clear HM HWk HIN hle hwi hqq hq' hs0 hvk hsk hx hy hwl
     unfold maxLen at hmq
     go_wp2
     go_region_held3 (fun w' => w'.cell? ⟨w.heap.size + 1, k, none⟩ = some (.map (some bk)) ∧ w'.cell? ⟨gw, 1, none⟩ = some (.slice (some ⟨bi, oi, none⟩) p.code.length c') ∧ w'.cell? ⟨bi, oi + k * 6, none⟩ = some (.int .i64 (inAt p.code k).op) ∧ w'.cell? ⟨bi, oi + k * 6 + 1, none⟩ = some (.int .i64 (inAt p.code k).d) ∧ w'.cell? ⟨bi, oi + k * 6 + 2, none⟩ = some (.int .i64 (inAt p.code k).a) ∧ w'.cell? ⟨bi, oi + k * 6 + 3, none⟩ = some (.int .i64 (inAt p.code k).b) ∧ w'.cell? ⟨bi, oi + k * 6 + 4, none⟩ = some (.int .i64 (inAt p.code k).c) ∧ w'.cell? ⟨bi, oi + k * 6 + 5, none⟩ = some (.int .u32 ((inAt p.code k).n : Int)) ∧
         w'.cell? ⟨w.heap.size, 1, none⟩ = some (.slice (some ⟨br, or_, none⟩) p.code.length cr) ∧ w'.cell? ⟨br, or_ + k * 8, none⟩ = some (.int .i64 x.r.d.k) ∧ w'.cell? ⟨br, or_ + k * 8 + 1, none⟩ = some (.int .i64 x.r.d.n) ∧ w'.cell? ⟨br, or_ + k * 8 + 2, none⟩ = some (.int .i64 x.r.a.k) ∧ w'.cell? ⟨br, or_ + k * 8 + 3, none⟩ = some (.int .i64 x.r.a.n) ∧ w'.cell? ⟨br, or_ + k * 8 + 4, none⟩ = some (.int .i64 x.r.b.k) ∧ w'.cell? ⟨br, or_ + k * 8 + 5, none⟩ = some (.int .i64 x.r.b.n) ∧ w'.cell? ⟨br, or_ + k * 8 + 6, none⟩ = some x.vb ∧ w'.cell? ⟨br, or_ + k * 8 + 7, none⟩ = some x.va)
       (first
         | go_keep
         | exact sa)
       (first
         | (go_at_call 65; refine (HT.out _ (Kept.refl (fun _ => False) wr).drew).mono ?_; rintro e wb ⟨b2, ok2, rfl, s2, _, f20⟩; have f2 := (Kept.refl (fun _ => False) wr).drew.trans f20; have sa := And.intro ((f2.cell zob (fun h => h)).trans y0) (And.intro ((f2.cell zgw (fun h => h)).trans q1) (And.intro ((f2.cell zbi (fun h => h)).trans i0) (And.intro ((f2.cell zbi (fun h => h)).trans i1) (And.intro ((f2.cell zbi (fun h => h)).trans i2) (And.intro ((f2.cell zbi (fun h => h)).trans i3) (And.intro ((f2.cell zbi (fun h => h)).trans i4) (And.intro ((f2.cell zbi (fun h => h)).trans i5) (And.intro ((f2.cell zlb (fun h => h)).trans y1) (And.intro ((f2.cell zbr (fun h => h)).trans r0) (And.intro ((f2.cell zbr (fun h => h)).trans r1) (And.intro ((f2.cell zbr (fun h => h)).trans r2) (And.intro ((f2.cell zbr (fun h => h)).trans r3) (And.intro ((f2.cell zbr (fun h => h)).trans r4) (And.intro ((f2.cell zbr (fun h => h)).trans r5) (And.intro ((f2.cell zbr (fun h => h)).trans r6) ((f2.cell zbr (fun h => h)).trans r7))))))))))))))))))
     rename_i hHeld
     clear hHeld
     obtain ⟨_, q1b, j0, j1, j2, j3, j4, j5, _⟩ := sa
     have HM2 := Lib.hid (HMP.out.keep f2)
     have HOB : Hid (w.heap.size + 1 < wb.heap.size) := (HMP.out.keep f2).ob.lt
     have HS2 := Lib.hid s2
     have zgw2 : gw < wb.heap.size := Nat.lt_of_lt_of_le zgw f2.size
     have zbi2 : bi < wb.heap.size := Nat.lt_of_lt_of_le zbi f2.size
     have HNK := Lib.hid (HNX.out k wb hk)
     unfold In.val at HNK
     have hnl2 := nexts_len (inAt p.code k) k
     clear f20 f2 s2 HMP HSK HT y0 zob zlb y1 q1 zgw zbi i0 i1 i2 i3 i4 i5 r0 r1 r2 r3 r4 r5 r6 r7 zbr hcq hslq hlq hmq hgq
     go_wp2_with fail
     refine HNK.out.mono ?_
     rintro e w5 ⟨v5, rfl, hru, f5⟩
     have HM5 := Lib.hid (HM2.out.keep f5)
     have HS5 := Lib.hid (HS2.out.kept f5 (fun h => h))
     have HR5 := Lib.hid hru.both
     obtain ⟨Au, cu, rfl, _⟩ := id hru
     have HQ5 : Hid (∀ g, qv'.ownBlock = some g → g < wb.heap.size ∨ w5.heap.size ≤ g) := fun g hg => Or.inl (HM2.out.qu.lt hg).2
     have HMI : Hid (MdI w w5 #[.int .i64 l.slots, .slice (some ⟨br, or_, none⟩) p.code.length cr] (w.heap.size + 1) p sg sl l k s0 0 qv' (gk - 1)) := ⟨vs, Aq, wk, HM5.out, HMid.out, HIN2.out, HLE.out⟩
     clear hru f5 HM2 HS2 HNK q1b j0 j1 j2 j3 j4 j5 zgw2 zbi2 HM5 HMid HIN2 HLE
     go_wp2
     go_loopw [7, 72] (fun qv i wr => ∃ x : Nat, x ≤ (nexts (inAt p.code k) k).length ∧ i = .int .i64 x ∧ Hid (MdI w wr #[.int .i64 l.slots, .slice (some ⟨br, or_, none⟩) p.code.length cr] (w.heap.size + 1) p sg sl l k s0 x qv (gk - 1)) ∧ Hid (FSet wr b2 2400 (thru p l k s0)) ∧ Hid (RdI wr (fun b => wb.heap.size ≤ b ∧ b < w5.heap.size) (.slice Au (nexts (inAt p.code k) k).length cu) (nexts (inAt p.code k) k)) ∧ Hid (∀ g, qv.ownBlock = some g → g < wb.heap.size ∨ w5.heap.size ≤ g) ∧ w5.heap.size ≤ wr.heap.size) (fun _ i _ => (nexts (inAt p.code k) k).length - (intOf i).toNat)
     case atStart => exact ⟨0, Nat.zero_le _, rfl, HMI, HS5, HR5, HQ5, Nat.le_refl _⟩
     case round =>
       obtain ⟨y, hy, rfl, hmd, hs, hr, hq, hsz⟩ := hrel
       clear HMI HS5 HR5 HQ5
       obtain ⟨vs, Aq, wk, HM, HMd, HIN, hle⟩ := hmd.out.ex
       by_cases hlt : y < (nexts (inAt p.code k) k).length
       · obtain ⟨n, hxn⟩ : ∃ n, (nexts (inAt p.code k) k)[y]? = some n := ⟨_, List.getElem?_eq_getElem hlt⟩
         have hn0 := HNP.out k n hk (List.mem_of_getElem? hxn)
         obtain ⟨nn, rfl⟩ : ∃ nn : Nat, n = (nn : Int) := ⟨n.toNat, by omega⟩
         obtain ⟨b5, o5, c5, e5, _, hb5, c0⟩ := hr.out.at_ hxn
         obtain ⟨rfl, _, rfl⟩ : Au = some ⟨b5, o5, none⟩ ∧ True ∧ cu = c5 := by simpa using e5
         have HXN := Lib.hid hxn
         have htn : ((nn : Int)).toNat = nn := Int.toNat_natCast nn
         have hy0 : (0 : Int) ≤ (y : Int) := Int.natCast_nonneg _
         have hy1 : (y : Int) < ((nexts (inAt p.code k) k).length : Int) := by omega
         clear e5 hxn
         by_cases hnl : nn < p.code.length
         · have hnx := fnx_of HXN.out hnl
           have hwk := wk_le (p := p) (sg := sg) (sl := sl) (A := Aq) (wk := wk)
           have hwv : (wkVals wk).length = wk.length := by unfold wkVals; simp
           have hbase := HM.fr.size
           have hnl' : ¬ (p.code.length : Int) ≤ (nn : Int) := by omega
           have hnn0 : (0 : Int) ≤ (nn : Int) := Int.natCast_nonneg _
           have hnn1 : (nn : Int) < (p.code.length : Int) := by omega
           have hel := HM.el nn hnl
           have y0 := HM.ob.cell nn
           rw [mkS_at hnl] at y0
           have y1 := HM.ob.frozen nn
           have zob := HM.ob.lt
           cases hA : Aq nn with
           | none =>
             rw [hA] at hel
             have hel : vs nn = .map none := hel
             rw [hel] at y0
             have HN := Lib.hid (HM.put hnl (v := .map (some b2)) (S := thru p l k s0) ⟨b2, rfl, hs.out⟩)
             have HSX := Lib.hid (HM.set_put (n := nn) (v := .map (some b2)) hs.out)
             have HRX := Lib.hid (hr.out.kept ((Kept.refl (fun b => b = w.heap.size + 1) wr).setCell (p := ⟨w.heap.size + 1, nn, none⟩) (fun _ => rfl) (.map (some b2))) (fun b hb e => by have := HOB.out; omega))
             have HMD := HMd.new HXN.out hnx (by rw [htn]; exact hA)
             have hwm := workM_new (p := p) (sg := sg) (sl := sl) (A := Aq) (wk := wk) (s := thru p l k s0) hnl hA
             rw [htn] at HMD
             have HMD := Lib.hid HMD
             have HIN2 := Lib.hid (HIN.put (n := nn) (HTI.out k s0 hk HUK.out))
             have hle2 : Hid (workM p sg sl (setA Aq nn (thru p l k s0)) (wk ++ [nn]) ≤ gk - 1) := by show _ ≤ _; omega
             have heq := eqNil0
             clear hmd HM HMd HIN hnx hA hel hwm hs hr
             go_wp2_with (first
               | (at_builtin
                  refine wpList_push rfl slInt' (.tmp 102) (.tmp 104) (by rfl) (by rfl) (HN.out.qu.fr ((Kept.refl _ _).alloc _)) (fun _ => True) _ 1 (.int .i64 (nn : Int)) (by rfl) (Reads.lit' (by simp) trivial rfl) rfl ?_ ?_ ?_ ?_
                  · omega
                  · unfold maxLen; omega
                  · simp only [World.size_alloc, World.size_setCell]; omega
                  intro v7 w7 hq7 hk7 hat7
                  have HFA := Lib.hid ((Kept.refl (fun _ => False) (wr.setCell ⟨w.heap.size + 1, nn, none⟩ (.map (some b2)))).alloc (.cells #[.int .i64 (nn : Int)] 3))
                  have HN7 := Lib.hid ((HN.out.keep HFA.out).push hq7 hk7)
                  have HS7 := Lib.hid ((HN.out.keep HFA.out).set_push (HSX.out.kept HFA.out (fun h => h)) hk7)
                  have HR7 := Lib.hid ((HRX.out.kept HFA.out (fun _ _ h => h)).kept hk7 (fun b hb e => by have := hq.out b e; omega))
                  have HQ7 : Hid (∀ g, v7.ownBlock = some g → g < wb.heap.size ∨ w5.heap.size ≤ g) := fun g hg => by
                    rcases hat7 with e7 | e7
                    · rw [e7] at hg; exact hq.out g hg
                    · have := e7 g hg; simp only [World.size_alloc, World.size_setCell] at this; exact Or.inr (by omega)
                  have hz7 := hk7.size
                  simp only [World.size_alloc, World.size_setCell] at hz7
                  clear hq7 hk7 hat7 HFA HN HSX HRX)
               | go_in)
             go_roundw
             case rel => exact ⟨y + 1, by omega, by go_num, ⟨_, _, _, HN7.out, HMD.out, HIN2.out, hle2.out⟩, HS7, HR7, HQ7, by omega⟩
             case measure => simp [intOf]; omega
           | some S1 =>
             rw [hA] at hel
             obtain ⟨b1, hb1, hs1⟩ := hel
             rw [hb1] at y0
             have heq := eqNil1 b1
             have HMT := Lib.hid (meet_any b1 b2 2400 2400 S1 (thru p l k s0) wr hs1 hs.out (by decide))
             have HINM := Lib.hid (HIN nn S1 hA)
             have HM0 := Lib.hid HM
             have HMD0 := Lib.hid HMd
             have HIN0 := Lib.hid HIN
             have HA := Lib.hid hA
             have hnxx := Lib.hid hnx
             clear hmd HM HMd HIN hnx hA hb1 hs1
             go_wp2_with fail
             refine HMT.out.mono ?_
             rintro e w6 ⟨b3, less, rfl, s3, hless, f6, _⟩
             have HM6 := Lib.hid (HM0.out.keep f6)
             have HN := Lib.hid ((HM0.out.keep f6).put hnl (v := .map (some b3)) (S := fun f => S1 f ∧ thru p l k s0 f) ⟨b3, rfl, s3⟩)
             have HSX := Lib.hid ((HM0.out.keep f6).set_put (n := nn) (v := .map (some b3)) (hs.out.kept f6 (fun h => h)))
             have HRX := Lib.hid ((hr.out.kept f6 (fun _ _ h => h)).kept ((Kept.refl (fun b => b = w.heap.size + 1) w6).setCell (p := ⟨w.heap.size + 1, nn, none⟩) (fun _ => rfl) (.map (some b3))) (fun b hb e => by have := HOB.out; omega))
             have HIN2 := Lib.hid (HIN0.out.put (n := nn) (S := fun f => S1 f ∧ thru p l k s0 f) (fun f hf => HINM.out f hf.1))
             have zob6 := HM6.out.ob.lt
             have y6 := HM6.out.ob.frozen nn
             have x6 := HM6.out.ob.cell nn
             have hb6 := HM6.out.fr.size
             have hz6 := f6.size
             rw [mkS_at hnl] at x6
             have HL := Lib.hid hless
             clear HM0 HMT hs hr s3 f6 y0 y1 zob hless HM6 heq
             cases less with
             | true =>
               obtain ⟨f, hf1, hf2⟩ := HL.out.1 rfl
               have hwm := workM_less (p := p) (sg := sg) (sl := sl) (A := Aq) (wk := wk) (s := fun f => S1 f ∧ thru p l k s0 f) hnl HA.out (fun _ h => h.1) (HINM.out f hf1) hf1 (fun h => hf2 h.2)
               have HMD := HMD0.out.less HXN.out hnxx.out (s1 := S1) (by rw [htn]; exact HA.out)
               rw [htn] at HMD
               have HMD := Lib.hid HMD
               have hle2 : Hid (workM p sg sl (setA Aq nn (fun f => S1 f ∧ thru p l k s0 f)) (wk ++ [nn]) ≤ gk - 1) := by show _ ≤ _; omega
               clear hwm HINM HA HMD0 HL hf1 hf2 hnxx
               go_wp2_with (first
                 | (at_builtin
                    refine wpList_push rfl slInt' (.tmp 102) (.tmp 104) (by rfl) (by rfl) (HN.out.qu.fr ((Kept.refl _ _).alloc _)) (fun _ => True) _ 1 (.int .i64 (nn : Int)) (by rfl) (Reads.lit' (by simp) trivial rfl) rfl ?_ ?_ ?_ ?_
                    · omega
                    · unfold maxLen; omega
                    · simp only [World.size_alloc, World.size_setCell]; omega
                    intro v7 w7 hq7 hk7 hat7
                    have HFA := Lib.hid ((Kept.refl (fun _ => False) (w6.setCell ⟨w.heap.size + 1, nn, none⟩ (.map (some b3)))).alloc (.cells #[.int .i64 (nn : Int)] 3))
                    have HN7 := Lib.hid ((HN.out.keep HFA.out).push hq7 hk7)
                    have HS7 := Lib.hid ((HN.out.keep HFA.out).set_push (HSX.out.kept HFA.out (fun h => h)) hk7)
                    have HR7 := Lib.hid ((HRX.out.kept HFA.out (fun _ _ h => h)).kept hk7 (fun b hb e => by have := hq.out b e; omega))
                    have HQ7 : Hid (∀ g, v7.ownBlock = some g → g < wb.heap.size ∨ w5.heap.size ≤ g) := fun g hg => by
                      rcases hat7 with e7 | e7
                      · rw [e7] at hg; exact hq.out g hg
                      · have := e7 g hg; simp only [World.size_alloc, World.size_setCell] at this; exact Or.inr (by omega)
                    have hz7 := hk7.size
                    simp only [World.size_alloc, World.size_setCell] at hz7
                    clear hq7 hk7 hat7 HFA HN HSX HRX)
                 | go_in)
               go_roundw
               case rel => exact ⟨y + 1, by omega, by go_num, ⟨_, _, _, HN7.out, HMD.out, HIN2.out, hle2.out⟩, HS7, HR7, HQ7, by omega⟩
               case measure => simp [intOf]; omega
             | false =>
               have hno : ∀ f, S1 f → thru p l k s0 f := fun f hf => Classical.byContradiction fun hc => absurd (HL.out.2 ⟨f, hf, hc⟩) (by decide)
               have hws := workM_same (p := p) (sg := sg) (sl := sl) (A := Aq) (wk := wk) (s := fun f => S1 f ∧ thru p l k s0 f) HA.out (fun f => ⟨fun h => h.1, fun h => ⟨h, hno f h⟩⟩)
               have HMD := HMD0.out.same HXN.out (s1 := S1) (by rw [htn]; exact HA.out) hno
               rw [htn] at HMD
               have HMD := Lib.hid HMD
               have hle2 : Hid (workM p sg sl (setA Aq nn (fun f => S1 f ∧ thru p l k s0 f)) wk ≤ gk - 1) := by show _ ≤ _; omega
               clear hws HINM HA HMD0 HL hno hnxx
               go_wp2
               go_roundw
               case rel => exact ⟨y + 1, by omega, by go_num, ⟨_, _, _, HN.out, HMD.out, HIN2.out, hle2.out⟩, HSX, HRX, hq, by simp only [World.size_setCell]; omega⟩
               case measure => simp [intOf]; omega
         · have HN : Hid (MdI w wr #[.int .i64 l.slots, .slice (some ⟨br, or_, none⟩) p.code.length cr] (w.heap.size + 1) p sg sl l k s0 (y + 1) u7 (gk - 1)) := ⟨vs, Aq, wk, HM, HMd.skip HXN.out (by omega), HIN, hle⟩
           have hnl' : (p.code.length : Int) ≤ (nn : Int) := by omega
           clear hmd HM HMd HIN
           go_wp2
           go_roundw
           case rel => exact ⟨y + 1, by omega, by go_num, HN, hs, hr, hq, hsz⟩
           case measure => simp [intOf]; omega
       · obtain rfl : y = (nexts (inAt p.code k) k).length := by omega
         have HN : Hid (WkI w wr #[.int .i64 l.slots, .slice (some ⟨br, or_, none⟩) p.code.length cr] (w.heap.size + 1) p sg sl l u7 (gk - 1)) := ⟨vs, Aq, wk, HM, HMd.done, HIN, hle⟩
         clear hmd HM HMd HIN
         go_wp2
         go_roundg (gk - 1)
         case measure => have := hgk0.out; omega
         case rel => exact ⟨by omega, HN⟩
end Go.Proofs.YtodmkjeankbieaaGreatDoor


namespace Go.Proofs.YtodmkjeankbieaaGreatDoor
open Go.RowKit Go.Sort

def tgV (sg : Int) : Value := .agg #[.int .i64 sg]
def Mv.value (m : Mv) : Value := .agg #[.int .i64 m.to.k, .int .i64 m.to.n, .int .i64 m.fr.k, .int .i64 m.fr.n, .bool m.c, .int .u32 m.n]

set_option maxHeartbeats 400000 in
theorem Target_any (sg : Int) (w : World) : Calls Tryz.prog 28 #[tgV sg] w fun e w' => e = .returned (.bool (tgB sg)) ∧ Fr w w' := by
 have HF := Lib.hid (show Fr w (w.alloc (.cells #[.int .i64 sg] 52)) from (Kept.refl _ w).alloc _)
 unfold tgV
 go_enter Tryz.func28, Tryz.ntmps28
 go_wp2
 all_goals go_ret
 all_goals refine ⟨ret_b ?_, HF.out⟩
 all_goals unfold tgB
 all_goals rw [Bool.eq_iff_iff]
 all_goals simp only [Bool.and_eq_true, decide_eq_true_eq, beq_iff_eq, Bool.false_eq_true, false_iff]
 all_goals omega

set_option maxHeartbeats 400000 in
theorem is_any (sg sl : Int) (a : PlaceV) (w : World) (h4 : 4 ≤ sg) (h16 : sg ≤ 16) : Calls Tryz.prog 87 #[tgV sg, .int .i64 sl, a.val] w fun e w' => e = .returned (.bool (isB sg sl a)) ∧ Fr w w' := by
 obtain ⟨k, n⟩ := a
 have HF := Lib.hid (show Fr w ((w.alloc (.cells #[.int .i64 sg] 52)).alloc (.cells #[.int .i64 k, .int .i64 n] 99)) from ((Kept.refl _ w).alloc _).alloc _)
 have hq : sg.tdiv 2 = sg / 2 := Int.tdiv_eq_ediv_of_nonneg (by omega)
 unfold tgV PlaceV.val
 simp only
 go_enter Tryz.func87, Tryz.ntmps87
 go_wp2
 all_goals go_ret
 all_goals refine ⟨ret_b ?_, HF.out⟩
 all_goals unfold isB
 all_goals rw [Bool.eq_iff_iff]
 all_goals simp only [beq_iff_eq, beq_eq_false_iff_ne] at *
 all_goals simp only [Bool.and_eq_true, decide_eq_true_eq, beq_iff_eq, Bool.false_eq_true, false_iff]
 all_goals (split <;> (try split) <;> (try split) <;> omega)

theorem mvB_c {sg sl : Int} {tt fr : PlaceV} {n : Nat} : mvB sg sl ⟨tt, fr, true, n⟩ = (isB sg sl tt && (decide (fr = ⟨0, 0⟩) && decide (tt.k = 1))) := rfl
theorem mvB_n {sg sl : Int} {tt fr : PlaceV} {n : Nat} : mvB sg sl ⟨tt, fr, false, n⟩ = (isB sg sl tt && (decide (n = 0) && isB sg sl fr && (decide (tt.k = fr.k) != (decide (tt.k = 3) || decide (fr.k = 3))))) := rfl

set_option maxHeartbeats 1000000 in
set_option maxRecDepth 100000 in
theorem move_any (sg sl : Int) (m : Mv) (w : World) (h4 : 4 ≤ sg) (h16 : sg ≤ 16) : Calls Tryz.prog 103 #[tgV sg, .int .i64 sl, m.value] w fun e w' => e = .returned (.bool (mvB sg sl m)) ∧ Fr w w' := by
 obtain ⟨⟨tk, tn⟩, ⟨fk, fn⟩, c, n⟩ := m
 have HF0 := Lib.hid (show Fr w ((w.alloc (.cells #[.int .i64 sg] 52)).alloc (.cells #[.int .i64 tk, .int .i64 tn, .int .i64 fk, .int .i64 fn, .bool c, .int .u32 n] 141)) from ((Kept.refl _ w).alloc _).alloc _)
 have HB0 := Lib.hid ((Blk.new w 52 #[.int .i64 sg]).alloc (.cells #[.int .i64 tk, .int .i64 tn, .int .i64 fk, .int .i64 fn, .bool c, .int .u32 n] 141))
 have HB1 : Hid (Blk ((w.alloc (.cells #[.int .i64 sg] 52)).alloc (.cells #[.int .i64 tk, .int .i64 tn, .int .i64 fk, .int .i64 fn, .bool c, .int .u32 n] 141)) (w.heap.size + 1) 141 #[.int .i64 tk, .int .i64 tn, .int .i64 fk, .int .i64 fn, .bool c, .int .u32 n]) := by
   have := Blk.new (w.alloc (.cells #[.int .i64 sg] 52)) 141 #[.int .i64 tk, .int .i64 tn, .int .i64 fk, .int .i64 fn, .bool c, .int .u32 n]
   show Blk _ _ _ _
   simpa using this
 have HTo := Lib.hid (fun w => is_any sg sl ⟨tk, tn⟩ w h4 h16)
 have HFrm := Lib.hid (fun w => is_any sg sl ⟨fk, fn⟩ w h4 h16)
 unfold tgV PlaceV.val at HTo HFrm
 simp only at HTo HFrm
 unfold tgV Mv.value
 simp only
 go_enter Tryz.func103, Tryz.ntmps103
 go_wp2_with fail
 refine (HTo.out _).mono ?_
 rintro e w1 ⟨rfl, f1⟩
 have HF1 := Lib.hid (HF0.out.trans f1)
 have HB2 := Lib.hid (HB0.out.kept f1 (fun h => h))
 have HB3 := Lib.hid (HB1.out.kept f1 (fun h => h))
 have t0 := HB2.out.cell 0
 have m0 := HB3.out.cell 0
 have m2 := HB3.out.cell 2
 have m3 := HB3.out.cell 3
 have m4 := HB3.out.cell 4
 have m5 := HB3.out.cell 5
 have z0 := HB2.out.lt
 have z1 := HB3.out.lt
 simp only [List.getElem?_toArray, List.getElem?_cons_succ, List.getElem?_cons_zero] at t0 m0 m2 m3 m4 m5
 clear f1 HF0 HB0 HB1 HTo
 cases ht : isB sg sl ⟨tk, tn⟩ with
 | false =>
   have HV : Hid (mvB sg sl ⟨⟨tk, tn⟩, ⟨fk, fn⟩, c, n⟩ = false) := by
     show _ = _; unfold mvB; simp only; rw [ht]; rfl
   clear ht
   go_wp2
   go_ret
   exact ⟨ret_b HV.out.symm, HF1.out⟩
 | true =>
   cases c with
   | true =>
     have HV : Hid (mvB sg sl ⟨⟨tk, tn⟩, ⟨fk, fn⟩, true, n⟩ = (decide ((⟨fk, fn⟩ : PlaceV) = ⟨0, 0⟩) && decide (tk = 1))) := by
       show _ = _; rw [mvB_c, ht]; rfl
     clear ht
     go_wp2
     all_goals go_ret
     all_goals refine ⟨ret_b ?_, HF1.out⟩
     all_goals rw [HV.out, Bool.eq_iff_iff]
     all_goals simp only [Bool.and_eq_true, decide_eq_true_eq, beq_iff_eq, Bool.false_eq_true, false_iff, PlaceV.mk.injEq]
     all_goals omega
   | false =>
     have HV : Hid (mvB sg sl ⟨⟨tk, tn⟩, ⟨fk, fn⟩, false, n⟩ = (decide (n = 0) && isB sg sl ⟨fk, fn⟩ && (decide (tk = fk) != (decide (tk = 3) || decide (fk = 3))))) := by
       show _ = _; rw [mvB_n, ht]; rfl
     clear ht
     by_cases hn0 : n = 0
     · subst hn0
       go_wp2
       go_quiet (fail)
       go_wp2_with fail
       refine (HFrm.out _).mono ?_
       rintro e w2 ⟨rfl, f2⟩
       have HF2 := Lib.hid ((HF1.out.drewN nq).trans f2)
       clear f2
       cases hi : isB sg sl ⟨fk, fn⟩ with
       | false =>
         rw [hi] at HV
         clear hi
         go_wp2
         go_ret
         refine ⟨ret_b ?_, HF2.out⟩
         rw [HV.out]
         rfl
       | true =>
         rw [hi] at HV
         have HV2 : Hid (mvB sg sl ⟨⟨tk, tn⟩, ⟨fk, fn⟩, false, 0⟩ = ((tk == fk) != (decide (tk = 3) || decide (fk = 3)))) := by
           show _ = _
           rw [HV.out, show decide (tk = fk) = (tk == fk) from by rw [Bool.eq_iff_iff]; simp]
           rfl
         clear hi HV
         go_wp2
         all_goals go_ret
         all_goals refine ⟨ret_b ?_, HF2.out⟩
         all_goals rw [HV2.out]
         · rename_i h3
           subst h3
           simp [bne]
         · rename_i h3
           have e3 : decide (tk = 3) = (tk == 3) := by rw [Bool.eq_iff_iff]; simp
           have e4 : decide (fk = 3) = (fk == 3) := by rw [Bool.eq_iff_iff]; simp
           rw [e3, e4]
           rfl
     · have hn1 : ((n : Int) == 0) = false := by simpa using hn0
       go_wp2
       go_quiet (fail)
       go_wp2_with fail
       go_ret
       refine ⟨ret_b ?_, HF1.out.drewN nq⟩
       rw [HV.out, decide_eq_false hn0]
       rfl
end Go.Proofs.YtodmkjeankbieaaGreatDoor

