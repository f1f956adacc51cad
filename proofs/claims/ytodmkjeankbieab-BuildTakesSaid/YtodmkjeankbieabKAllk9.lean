/- Texts of this claim, packed. -/
import Derived.Test.YtodmkjeankbieabKAllk8
set_option linter.all false
namespace Go.Proofs.Ytodmkjeankbieab
open Go.RowKit Go.Sort

def mkS (n : Nat) (vs : Nat → Value) : Array Value := ((List.range n).map vs).toArray
theorem mkS_at {n : Nat} {vs : Nat → Value} {t : Nat} (h : t < n) : (mkS n vs)[t]? = some (vs t) := by
 unfold mkS
 simp [List.getElem?_range h]
theorem mkS_set {n : Nat} {vs : Nat → Value} {t : Nat} {x : Value} : (mkS n vs).setIfInBounds t x = mkS n (fun s => if s = t then x else vs s) := by
 unfold mkS
 rw [List.setIfInBounds_toArray]
 congr 1
 apply List.ext_getElem
 · simp
 · intro i h1 h2
   simp at h1
   rw [List.getElem_set]
   by_cases h : t = i
   · subst h; simp
   · rw [if_neg h]
     simp
     intro e; exact absurd e.symm h
theorem made_mkS (n : Nat) (z : Value) : madeCells #[z] n = mkS n (fun _ => z) := by
 unfold mkS
 apply Array.ext_getElem?
 intro i
 unfold madeCells
 rcases Nat.lt_or_ge i n with h | h
 · simp [List.getElem?_range h, h, Nat.mod_one]
 · simp [List.getElem?_eq_none, h, Nat.not_lt.2 h]
theorem infoBools : (Try.prog.info? 22).map (fun i => (i.zero, i.size, i.bytes)) = some (some (.slice none 0 0), 1, 24) := by kernel_rfl
theorem run_make_rows (n : Nat) (h : n ≤ 1000000) (w : World) : (Instr.makeSlice 38 (.int .i64 (n : Int)) (.int .i64 (n : Int))).run Try.prog w = .ok (.slice (some ⟨w.heap.size, 0, none⟩) n n) (w.alloc (.cells (mkS n fun _ => .slice none 0 0) 22)) := by
 rw [← made_mkS]
 exact run_make_row' 38 22 (.slice none 0 0) 24 Try.underlying38 infoBools rfl .i64 .i64 n (by omega) (by omega) w

structure LiMem (w wr : World) (vw vc : Value) (g0 L W j : Nat) (vs : Nat → Value) (M : Nat → Nat → Bool) : Prop where
 bp : Blk wr w.heap.size 25 #[vw, vc]
 ob : Blk wr g0 22 (mkS L vs)
 row : ∀ k, k < j → ∃ g, vs k = .slice (some ⟨g, 0, none⟩) W W ∧ w.heap.size < g ∧ Blk wr g 4 (mkB W (M k))
 fr : Fr w wr
 g0 : w.heap.size < g0
section
variable {w wr w2 : World} {vw vc : Value} {g0 L W j : Nat} {vs : Nat → Value} {M : Nat → Nat → Bool}
theorem LiMem.keep (h : LiMem w wr vw vc g0 L W j vs M) (hk : Fr wr w2) : LiMem w w2 vw vc g0 L W j vs M :=
 ⟨h.bp.kept hk (fun h => h), h.ob.kept hk (fun h => h), fun k hkj => let ⟨g, h1, h2, h3⟩ := h.row k hkj; ⟨g, h1, h2, h3.kept hk (fun h => h)⟩, h.fr.trans hk, h.g0⟩
theorem LiMem.cp (h : LiMem w wr vw vc g0 L W j vs M) : wr.cell? ⟨w.heap.size, 0, none⟩ = some vw ∧ wr.cell? ⟨w.heap.size, 1, none⟩ = some vc := by
 have c0 := h.bp.cell 0
 have c1 := h.bp.cell 1
 simp only [List.getElem?_toArray, List.getElem?_cons_succ, List.getElem?_cons_zero] at c0 c1
 exact ⟨c0, c1⟩
theorem LiMem.put (h : LiMem w wr vw vc g0 L W j vs M) {k g : Nat} {f : Nat → Bool} (hg : w.heap.size < g) (hb : Blk wr g 4 (mkB W f)) {j' : Nat} (hj : ∀ i, i < j' → i < j ∨ i = k) :
   LiMem w (wr.setCell ⟨g0, k, none⟩ (.slice (some ⟨g, 0, none⟩) W W)) vw vc g0 L W j' (fun s => if s = k then .slice (some ⟨g, 0, none⟩) W W else vs s) (setRow M k f) := by
 have hk : Kept (fun b => b = g0) wr (wr.setCell ⟨g0, k, none⟩ (.slice (some ⟨g, 0, none⟩) W W)) := (Kept.refl (fun b => b = g0) wr).setCell (p := ⟨g0, k, none⟩) (fun _ => rfl) _
 refine ⟨h.bp.kept hk (by have := h.g0; show ¬ w.heap.size = g0; omega), ?_, ?_, h.fr.then hk (fun i hi e => by have := h.g0; omega), h.g0⟩
 · have := h.ob.set_ k (.slice (some ⟨g, 0, none⟩) W W)
   rwa [mkS_set] at this
 · intro i hi
   by_cases e : i = k
   · subst e
     exact ⟨g, by rw [if_pos rfl], hg, by rw [setRow_same]; exact hb.kept hk (hb.ne_ h.ob (by decide))⟩
   · rcases hj i hi with h1 | h1
     · obtain ⟨g', h2, h3, h4⟩ := h.row i h1
       exact ⟨g', by rw [if_neg e]; exact h2, h3, by rw [setRow_ne e]; exact h4.kept hk (h4.ne_ h.ob (by decide))⟩
     · exact absurd h1 e
def matL (L W : Nat) (M : Nat → Nat → Bool) : List (List Bool) := (List.range L).map fun k => (List.range W).map (M k)
theorem matL_at {L W k : Nat} {M : Nat → Nat → Bool} (h : k < L) : (matL L W M)[k]? = some ((List.range W).map (M k)) := by
 unfold matL; simp [List.getElem?_range h]
theorem matL_fn {L W k t : Nat} {M : Nat → Nat → Bool} (hk : k < L) (ht : t < W) : mfn (matL L W M) k t = M k t :=
 mfn_at (matL_at hk) (by simp [List.getElem?_range ht])
theorem matL_ok {p : Pg} {M : Nat → Nat → Bool} : MatOk p (matL p.code.length p.wide.length M) :=
 ⟨by unfold matL; simp, fun k r h => by
   have hk : k < p.code.length := by have := (List.getElem?_eq_some_iff.1 h).1; unfold matL at this; simpa using this
   rw [matL_at hk] at h
   simp at h
   rw [← h]; simp⟩
theorem behind_matL {code : List In} {W k t : Nat} {M : Nat → Nat → Bool} (ht : t < W) : behindM code (mfn (matL code.length W M)) k t = behindM code M k t := by
 have h : ∀ m, m < code.length → mfn (matL code.length W M) m t = M m t := fun m hm => matL_fn hm ht
 rw [Bool.eq_iff_iff]
 exact ⟨behindM_mono fun m hm h1 => by rwa [h m hm] at h1, behindM_mono fun m hm h1 => by rwa [h m hm]⟩
theorem LiMem.rdm (h : LiMem w wr vw vc g0 L W L vs M) (hW : W ≤ 100) (hL : L ≤ 100) : RdM wr (fun b => w.heap.size < b) (.slice (some ⟨g0, 0, none⟩) L L) (matL L W M) := by
 have hm : (matL L W M).length = L := by unfold matL; simp
 refine ⟨some ⟨g0, 0, none⟩, L, (List.range L).map vs, by rw [hm], by rw [hm]; unfold maxLen; omega, ?_, ?_⟩
 · rw [hm]
   refine ⟨by simp, fun _ => ⟨g0, 0, rfl, h.g0, fun i u hu => ?_⟩⟩
   rw [Nat.zero_add, h.ob.cell, ← hu]
   unfold mkS
   simp
 · intro k r hk
   have hkL : k < L := by rw [← hm]; exact (List.getElem?_eq_some_iff.1 hk).1
   rw [matL_at hkL] at hk
   simp at hk
   subst hk
   obtain ⟨g, h1, h2, h3⟩ := h.row k hkL
   exact ⟨vs k, by simp [List.getElem?_range hkL], by rw [h1]; exact RdBo.of_blk h3 h2 (by unfold maxLen; omega)⟩
end

theorem setRow_zero (k : Nat) : setRow (fun _ _ => false) k (fun _ => false) = fun _ _ => false := by
 funext j; unfold setRow; split <;> rfl
def nowTo (i : In) (b : Nat → Bool) (u : List Int) (t : Nat) : Bool := u.contains (t : Int) || (!givesB i t && b t)
theorem nowTo_all (code : List In) (M : Nat → Nat → Bool) (k t : Nat) : nowTo (inAt code k) (behindM code M k) (uses (inAt code k)) t = stepM code M k t := rfl
theorem nowTo_0 {i : In} {b : Nat → Bool} {t : Nat} (hg : gvs i.op = false) : b t = nowTo i b [] t := by unfold nowTo givesB; simp [hg]
theorem nowTo_0g {i : In} {b : Nat → Bool} {t d : Nat} (hg : gvs i.op = true) (hd : i.d = (d : Int)) : (if t = d then false else b t) = nowTo i b [] t := by
 unfold nowTo givesB
 rw [hg, hd]
 by_cases h : t = d
 · subst h; simp
 · have : ¬ ((d : Int) = (t : Int)) := by omega
   simp [h, this]
theorem nowTo_s {i : In} {b : Nat → Bool} {u : List Int} {t x : Nat} : (if t = x then true else nowTo i b u t) = nowTo i b (u ++ [(x : Int)]) t := by
 unfold nowTo
 by_cases h : t = x
 · subst h; simp
 · have : ¬ ((t : Int) = (x : Int)) := by omega
   rw [if_neg h]; simp [this]

theorem uses_in {p : Pg} {i : In} (hi : InsOk p i) {u : Int} (hu : u ∈ uses i) : tempIn p u := by
 unfold uses at hu
 obtain ⟨k, hk⟩ := List.getElem?_of_mem hu
 rw [List.getElem?_take] at hk
 split at hk
 · match k, hk with
   | 0, hk => simp at hk; subst hk; exact hi.a (by omega)
   | 1, hk => simp at hk; subst hk; exact hi.b (by omega)
 · cases hk
def newTo (f m : Nat → Bool) (b : Bool) (t : Nat) : Bool := b || (List.range t).any fun s => f s && !m s
theorem newTo_0 (f m : Nat → Bool) (b : Bool) : newTo f m b 0 = b := by unfold newTo; simp
theorem newTo_s {f m : Nat → Bool} {b : Bool} {t : Nat} : newTo f m b (t + 1) = (newTo f m b t || (f t && !m t)) := by
 unfold newTo
 rw [List.range_succ, List.any_append, ← Bool.or_assoc]
 simp

def LivePost (w : World) (p : Pg) (e : Ending) (w' : World) : Prop :=
 Fr w w' ∧ ((mayB p = false ∧ e = .returned (.tuple #[.slice none 0 0, .int .i64 2])) ∨
   (mayB p = true ∧ ∃ g0, e = .returned (.tuple #[.slice (some ⟨g0, 0, none⟩) p.code.length p.code.length, .int .i64 0]) ∧ RdM w' (fun b => w.heap.size < b) (.slice (some ⟨g0, 0, none⟩) p.code.length p.code.length) (needM p)))
theorem needM_eq {p : Pg} {M : Nat → Nat → Bool} (h : ∀ k t, k < p.code.length → t < p.wide.length → M k t = needB p.code k t) : matL p.code.length p.wide.length M = needM p := by
 unfold matL needM
 apply List.map_congr_left
 intro k hk
 apply List.map_congr_left
 intro t ht
 exact h k t (List.mem_range.1 hk) (List.mem_range.1 ht)

set_option maxHeartbeats 4000000 in
set_option maxRecDepth 100000 in
theorem liveOf_any (R : Nat → Prop) (v : Value) (p : Pg) (w : World) (h : RdPg w R v p) : Calls Try.prog 23 #[v] w (LivePost w p) := by
 have H := Lib.hid h
 obtain ⟨vw, vc, rfl, ⟨A, c, rfl, hl, hr⟩, ⟨A', c', rfl, hl', hr', ho'⟩⟩ := h
 unfold maxLen at hl hl'
 clear hr hr' ho'
 have HMay := Lib.hid (fun w1 (hk : Fr w w1) => May_any R _ p w1 (H.out.kept hk (fun _ _ h => h)))
 have B0 := Lib.hid (Blk.new w 25 #[.slice A p.wide.length c, .slice A' p.code.length c'])
 have F0 := Lib.hid (show Fr w (w.alloc (.cells #[.slice A p.wide.length c, .slice A' p.code.length c'] 25)) from (Kept.refl _ w).alloc _)
 go_enter Try.func23, Try.ntmps23
 go_wp2_with fail
 cases hmay : mayB p with
 | false =>
   rw [hmay] at HMay
   refine (HMay.out _ F0.out).mono ?_
   rintro e w1 ⟨rfl, f1⟩
   have HE : Hid (Fr w w1) := F0.out.trans f1
   have HB := Lib.hid hmay
   clear hmay
   go_wp2
   go_ret2
   exact ⟨HE.out, Or.inl ⟨HB.out, rfl⟩⟩
 | true =>
   rw [hmay] at HMay
   refine (HMay.out _ F0.out).mono ?_
   rintro e w1 ⟨rfl, f1⟩
   obtain ⟨l1, l2, l3, l4⟩ := mayB_len hmay
   have HB := Lib.hid hmay
   have B1 := B0.out.kept f1 (fun h => h)
   have F1 : Hid (Fr w w1) := F0.out.trans f1
   have z1 := B1.lt
   have q0 := B1.cell 0
   have q1 := B1.cell 1
   simp only [List.getElem?_toArray, List.getElem?_cons_succ, List.getElem?_cons_zero] at q0 q1
   have hmk := run_make_bools p.wide.length (by omega)
   have hmr := run_make_rows p.code.length (by omega)
   have HM0 := Lib.hid (show LiMem w (w1.alloc (.cells (mkS p.code.length fun _ => .slice none 0 0) 22)) (.slice A p.wide.length c) (.slice A' p.code.length c') w1.heap.size p.code.length p.wide.length 0 (fun _ => .slice none 0 0) (fun _ _ => false) from
     ⟨B1.alloc _, Blk.new w1 _ _, fun k hk => by omega, F1.out.alloc _, z1⟩)
   clear B1 f1 hmay B0 F0 HMay
   go_wp2
   go_loopw [23] (fun i wr => ∃ (j : Nat) (vs : Nat → Value), j ≤ p.code.length ∧ i = .int .i64 j ∧ Hid (LiMem w wr (.slice A p.wide.length c) (.slice A' p.code.length c') w1.heap.size p.code.length p.wide.length j vs (fun _ _ => false))) (fun i _ => p.code.length - (intOf i).toNat)
   case atStart => exact ⟨0, _, Nat.zero_le _, rfl, HM0⟩
   case round =>
     obtain ⟨j, vs, hj, rfl, hm⟩ := hrel
     clear HM0 q0 q1
     obtain ⟨q0, q1⟩ := hm.out.cp
     have z2 := hm.out.ob.lt
     have z3 := hm.out.bp.lt
     by_cases hlt : j < p.code.length
     · have y0 := hm.out.ob.frozen j
       have HN := Lib.hid (LiMem.put (hm.out.keep ((Kept.refl _ wr).alloc (.cells (mkB p.wide.length fun _ => false) 4))) (k := j) (g := wr.heap.size) (f := fun _ => false) (by omega) (Blk.new wr _ _) (j' := j + 1) (fun i hi => by omega))
       rw [setRow_zero, World.setCell_alloc_past _ _ _ _ z2] at HN
       have y1 := hm.out.ob.cell j
       rw [mkS_at hlt] at y1
       go_wp2
       go_roundw
       case rel => exact ⟨j + 1, _, by omega, by go_num, HN⟩
       case measure => simp [intOf]; omega
     · obtain rfl : j = p.code.length := by omega
       go_wp2
       have HG := Lib.hid (Good.zero (code := p.code) (W := p.wide.length))
       clear hmr
       obtain ⟨wo, rfl⟩ : ∃ wo : World, wo = wr := ⟨_, rfl⟩
       go_loopg [6] (cntM p.code.length p.wide.length (fun _ _ => false) + 1) (fun gn ag wr => ∃ (vs : Nat → Value) (M : Nat → Nat → Bool) (b : Bool), ag = .bool b ∧ Hid (LiMem w wr (.slice A p.wide.length c) (.slice A' p.code.length c') w1.heap.size p.code.length p.wide.length p.code.length vs M) ∧
         Hid (Good p.code p.wide.length M ∧ (b = true → cntM p.code.length p.wide.length M + 1 ≤ gn) ∧ (b = false → ∀ k t, k < p.code.length → t < p.wide.length → M k t = needB p.code k t)))
       case atStart => exact ⟨vs, _, true, rfl, hm, ⟨HG.out, fun _ => Nat.le_refl _, fun h => by cases h⟩⟩
       case round =>
         obtain ⟨vs, M, b, rfl, hm, hgood⟩ := hrel
         clear q0 q1 z2 z3
         obtain ⟨q0, q1⟩ := hm.out.cp
         cases b with
         | false =>
           have HE := Lib.hid (needM_eq (hgood.out.2.2 rfl))
           have HR := Lib.hid (hm.out.rdm (by omega) (by omega))
           rw [HE.out] at HR
           go_wp2
           go_ret2
           exact ⟨hm.out.fr, Or.inr ⟨HB.out, _, rfl, HR.out⟩⟩
         | true =>
           have hgk := hgood.out.2.1 rfl
           have HRd := Lib.hid (Round.start hgood.out.1)
           have HG1 := Lib.hid hgk
           clear hgk
           go_wp2
           obtain ⟨wq, rfl⟩ : ∃ wq : World, wq = wr := ⟨_, rfl⟩
           go_loopw [6, 7] (fun ag i wr => ∃ (kk : Nat) (vs : Nat → Value) (M1 : Nat → Nat → Bool) (b : Bool), kk ≤ p.code.length ∧ i = .int .i64 ((kk : Int) - 1) ∧ ag = .bool b ∧ Hid (LiMem w wr (.slice A p.wide.length c) (.slice A' p.code.length c') w1.heap.size p.code.length p.wide.length p.code.length vs M1) ∧
             Hid (Round p.code p.wide.length M M1 b kk)) (fun _ i _ => (intOf i + 1).toNat)
           case atStart => exact ⟨p.code.length, vs, M, false, Nat.le_refl _, rfl, rfl, hm, HRd⟩
           case round =>
             obtain ⟨kk, vs2, M1, b, hkk, rfl, rfl, hm1, hrd⟩ := hrel
             clear hm HRd q0 q1
             obtain ⟨q0, q1⟩ := hm1.out.cp
             rcases Nat.eq_zero_or_pos kk with h0 | h0
             · subst h0
               have HD : Hid (b = false → ∀ k t, k < p.code.length → t < p.wide.length → M1 k t = needB p.code k t) := fun hb => by
                 have := hrd.out
                 rw [hb] at this
                 exact this.done
               have HL : Hid (b = true → cntM p.code.length p.wide.length M1 + 1 ≤ gk - 1) := fun hb => by
                 have h1 := hrd.out.less hb
                 have h2 := HG1.out
                 omega
               have HGd := Lib.hid hrd.out.good
               have hgp : Hid (0 < gk) := by have := HG1.out; show 0 < gk; omega
               go_wp2
               go_roundg (gk - 1)
               case measure => have := hgp.out; omega
               case rel => exact ⟨vs2, M1, b, rfl, hm1, ⟨HGd.out, HL.out, HD.out⟩⟩
             · obtain ⟨k, rfl⟩ : ∃ k, kk = k + 1 := ⟨kk - 1, by omega⟩
               rw [show (((k + 1 : Nat) : Int) - 1) = (k : Int) from by omega]
               have hk : k < p.code.length := by omega
               have hx : p.code[k]? = some (inAt p.code k) := by rw [inAt_get hk]; exact List.getElem?_eq_getElem hk
               obtain ⟨b3, o3, hA3, _, d0, d1, d2, d3, d4, d5⟩ := ((pg_code H.out).kept hm1.out.fr (fun _ _ h => h)).ins hx
               subst hA3
               have HI := Lib.hid (insOk (mayB_ins HB.out (inAt_mem hk)))
               have hb3 := cell_lt d0
               have hg0 := hm1.out.ob.lt
               have hz1 := hm1.out.bp.lt
               have HSt := Lib.hid (fun t => nowTo_all p.code M1 k t)
               clear hx
               generalize hii : inAt p.code k = i at d0 d1 d2 d3 d4 d5 HI HSt
               clear hii
               obtain ⟨op, d, a, bb, cc, n⟩ := i
               simp only at d0 d1 d2 d3 d4 d5
               have HU := Lib.hid (fun w => Uses_any (⟨op, d, a, bb, cc, n⟩ : In) w HI.out.kn)
               have HGv := Lib.hid (fun w => Gives_any (⟨op, d, a, bb, cc, n⟩ : In) w HI.out.kn)
               have HBe := Lib.hid (fun w2 (hf : Fr wr w2) => Behind_any R _ _ _ p (matL p.code.length p.wide.length M1) k w2 (H.out.kept (hm1.out.fr.trans hf) (fun _ _ h => h)) ((hm1.out.keep hf).rdm (by omega) (by omega)) matL_ok HB.out hk)
               unfold In.val at HU HGv
               simp only at HU HGv
               have hu2 : Hid ((uses (⟨op, d, a, bb, cc, n⟩ : In)).length ≤ 2) := by show _ ≤ 2; unfold uses; simp; omega
               obtain ⟨wB, rfl⟩ : ∃ wB : World, wB = wr := ⟨_, rfl⟩
               have BI := Lib.hid (Blk.new wB 45 #[.int .i64 op, .int .i64 d, .int .i64 a, .int .i64 bb, .int .i64 cc, .int .u32 n])
               go_wp2_with fail
               refine (HBe.out _ ((Kept.refl _ wB).alloc _)).mono ?_
               rintro e w2 ⟨g, rfl, hge, hb2, f2⟩
               have HFB := Lib.hid (((Kept.refl _ wB).alloc _).trans f2)
               have BI2 := Lib.hid (BI.out.kept f2 (fun h => h))
               have hb2' := hb2
               rw [mkB_congr (fun t ht => behind_matL (code := p.code) (k := k) (M := M1) ht)] at hb2'
               have HN2 := Lib.hid hb2'
               have HL2 := Lib.hid (hm1.out.keep HFB.out)
               have hgB' : wB.heap.size < g := by simp at hge; omega
               have hgB := Lib.hid hgB'
               have z4 := BI2.out.lt
               have z5 := HN2.out.lt
               have e0 := BI2.out.cell 0
               have e1 := BI2.out.cell 1
               have e2 := BI2.out.cell 2
               have e3 := BI2.out.cell 3
               have e4 := BI2.out.cell 4
               have e5 := BI2.out.cell 5
               simp only [List.getElem?_toArray, List.getElem?_cons_succ, List.getElem?_cons_zero] at e0 e1 e2 e3 e4 e5
               clear hb2 hb2' f2 hge HBe BI d0 d1 d2 d3 d4 d5 q0 q1
               go_wp2_with fail
               refine (HGv.out _).mono ?_
               rintro e w3 ⟨rfl, f3⟩
               have HF3 := Lib.hid (HFB.out.trans f3)
               have BI3 := Lib.hid (BI2.out.kept f3 (fun h => h))
               have HN3 := Lib.hid (HN2.out.kept f3 (fun h => h))
               have z4 := BI3.out.lt
               have z5 := HN3.out.lt
               have e0 := BI3.out.cell 0
               have e1 := BI3.out.cell 1
               have e2 := BI3.out.cell 2
               have e3 := BI3.out.cell 3
               have e4 := BI3.out.cell 4
               have e5 := BI3.out.cell 5
               simp only [List.getElem?_toArray, List.getElem?_cons_succ, List.getElem?_cons_zero] at e0 e1 e2 e3 e4 e5
               clear f3 BI2 HN2 HFB HL2 HGv
               cases hg : gvs op
               case' true =>
                 obtain ⟨dn, hdn, rfl⟩ : ∃ dn : Nat, dn < p.wide.length ∧ d = (dn : Int) := ⟨d.toNat, by have := HI.out.d hg; unfold tempIn at this; simp only at this; omega, by have := HI.out.d hg; unfold tempIn at this; simp only at this; omega⟩
                 have y0 := HN3.out.frozen dn
                 have y1 := HN3.out.bcell hdn
                 have HNs := Lib.hid (show Blk (w3.setCell ⟨g, dn, none⟩ (.bool false)) g 4 (mkB p.wide.length (nowTo ⟨op, (dn : Int), a, bb, cc, n⟩ (behindM p.code M1 k) [])) from by
                   have := HN3.out.bset dn false
                   rwa [mkB_congr (fun t _ => nowTo_0g (i := ⟨op, (dn : Int), a, bb, cc, n⟩) (b := behindM p.code M1 k) (t := t) hg rfl)] at this)
                 have HFs := Lib.hid (HF3.out.setCell (p := ⟨g, dn, none⟩) (fun hlt => by have := hgB.out; simp only at hlt; omega) (.bool false))
                 have BIs := Lib.hid (BI3.out.far (p := ⟨g, dn, none⟩) (by have := hgB.out; show wB.heap.size ≠ g; omega) (.bool false))
               case' false =>
                 have HNs := Lib.hid (show Blk w3 g 4 (mkB p.wide.length (nowTo ⟨op, d, a, bb, cc, n⟩ (behindM p.code M1 k) [])) from by
                   have := HN3.out
                   rwa [mkB_congr (fun t _ => nowTo_0 (i := ⟨op, d, a, bb, cc, n⟩) (b := behindM p.code M1 k) (t := t) hg)] at this)
                 have HFs := Lib.hid HF3.out
                 have BIs := Lib.hid BI3.out
               all_goals
                 clear HN3 HF3 BI3 hg
                 generalize hus : uses (⟨op, _, a, bb, cc, n⟩ : In) = us at HU hu2 HSt
                 have HUI := Lib.hid (show ∀ u ∈ us, tempIn p u from fun u hu => uses_in HI.out (by rw [hus]; exact hu))
                 clear hus
                 generalize hI : (⟨op, _, a, bb, cc, n⟩ : In) = I at HNs HSt
                 clear hI HI
                 go_wp2_with fail
                 refine (HU.out _).mono ?_
                 rintro e w5 ⟨v5, rfl, hu5, f5⟩
                 have HF5 := Lib.hid (HFs.out.trans f5)
                 have HN5 := Lib.hid (HNs.out.kept f5 (fun h => h))
                 have hg5 : Hid (g < w5.heap.size) := HN5.out.lt
                 have hgs := HNs.out.lt
                 have HU5 := Lib.hid (show RdI w5 (fun b => g < b) v5 _ from let ⟨A1, c1, h1, h2⟩ := hu5; ⟨A1, c1, h1, h2.more (fun b hb => Nat.lt_of_lt_of_le hgs hb)⟩)
                 obtain ⟨A5, c5, rfl⟩ := hu5.val
                 clear hu5 f5 HNs HFs BIs HU hgs e0 e1 e2 e3 e4 e5
                 go_wp2
                 have HST := Lib.hid (fun t (ht : t < p.wide.length) => HSt.out t)
                 have hul := hu2.out
                 go_loopw [61] (fun i wr => ∃ x : Nat, x ≤ us.length ∧ i = .int .i64 x ∧ Hid (Fr wB wr ∧ Blk wr g 4 (mkB p.wide.length (nowTo I (behindM p.code M1 k) (us.take x))) ∧ RdI wr (fun b => g < b) (.slice A5 us.length c5) us)) (fun i _ => us.length - (intOf i).toNat)
                 case atStart => exact ⟨0, Nat.zero_le _, rfl, ⟨HF5.out, HN5.out, HU5.out⟩⟩
                 case round =>
                   obtain ⟨x, hx, rfl, hq⟩ := hrel
                   clear HF5 HN5 HU5
                   have z6 := hq.out.2.1.lt
                   by_cases hlt : x < us.length
                   · have hxx : us[x]? = some us[x] := List.getElem?_eq_getElem hlt
                     obtain ⟨b6, o6, c6, hv, hR6, hb6, r0⟩ := hq.out.2.2.at_ hxx
                     simp only [Value.slice.injEq] at hv
                     obtain ⟨rfl, _, rfl⟩ := hv
                     obtain ⟨u0, u1⟩ := HUI.out _ (List.getElem_mem hlt)
                     have HX := Lib.hid hxx
                     clear hxx
                     generalize us[x] = u at *
                     obtain ⟨un, rfl⟩ : ∃ un : Nat, u = (un : Int) := ⟨u.toNat, by omega⟩
                     have hun : un < p.wide.length := by omega
                     have y0 := hq.out.2.1.frozen un
                     have y1 := hq.out.2.1.bcell hun
                     have HN6 : Hid (Fr wB (wr.setCell ⟨g, un, none⟩ (.bool true)) ∧ Blk (wr.setCell ⟨g, un, none⟩ (.bool true)) g 4 (mkB p.wide.length (nowTo I (behindM p.code M1 k) (us.take (x + 1)))) ∧ RdI (wr.setCell ⟨g, un, none⟩ (.bool true)) (fun b => g < b) (.slice (some ⟨b6, o6, none⟩) us.length c5) us) := by
                       refine ⟨hq.out.1.setCell (p := ⟨g, un, none⟩) (fun hlt => by have := hgB.out; simp only at hlt; omega) _, ?_, ?_⟩
                       · have := hq.out.2.1.bset un true
                         rw [List.take_add_one, HX.out]
                         rwa [mkB_congr (fun t _ => nowTo_s (i := I) (b := behindM p.code M1 k) (t := t) (x := un))] at this
                       · exact hq.out.2.2.kept ((Kept.refl (fun b => b = g) wr).setCell (p := ⟨g, un, none⟩) (fun _ => rfl) _) (fun b hb e => by omega)
                     go_wp2
                     go_roundw
                     case rel => exact ⟨x + 1, by omega, by go_num, HN6⟩
                     case measure => simp [intOf]; omega
                   · obtain rfl : x = us.length := by omega
                     have HL7 := Lib.hid (hm1.out.keep hq.out.1)
                     have HN7 : Hid (Blk wr g 4 (mkB p.wide.length (stepM p.code M1 k))) := by
                       have := hq.out.2.1
                       rw [List.take_length] at this
                       show Blk _ _ _ _
                       rwa [mkB_congr (fun t ht => HST.out t ht)] at this
                     clear hq HST hlt hx
                     obtain ⟨gk2, hvk, hgk2, hbk⟩ := HL7.out.row k hk
                     have r0 := HL7.out.ob.cell k
                     rw [mkS_at hk, hvk] at r0
                     have z7 := HL7.out.ob.lt
                     have z8 := hbk.lt
                     have HBK := Lib.hid hbk
                     have HVK := Lib.hid hvk
                     clear hvk hbk
                     go_wp2
                     go_loop [6, 71] (fun ag i => ∃ (t : Nat) (b' : Bool), t ≤ p.wide.length ∧ i = .int .i64 t ∧ ag = .bool b' ∧ Hid (b' = newTo (stepM p.code M1 k) (M1 k) b t)) (fun _ i => p.wide.length - (intOf i).toNat)
                     case atStart => exact ⟨0, b, Nat.zero_le _, rfl, rfl, (newTo_0 _ _ _).symm⟩
                     case round =>
                       obtain ⟨t, b', ht, rfl, rfl, hb'⟩ := hrel
                       by_cases htl : t < p.wide.length
                       · have m0 := HBK.out.bcell htl
                         have m1 := HN7.out.bcell htl
                         have HNx := Lib.hid (newTo_s (f := stepM p.code M1 k) (m := M1 k) (b := b) (t := t))
                         rw [← hb'.out] at HNx
                         generalize M1 k t = x1 at *
                         generalize stepM p.code M1 k t = x2 at *
                         cases b' <;> cases x1 <;> cases x2
                         all_goals
                           go_wp2
                           go_round
                           case rel => exact ⟨t + 1, _, by omega, by go_num, rfl, HNx.out.symm⟩
                           case measure => simp [intOf]; omega
                       · obtain rfl : t = p.wide.length := by omega
                         have HRS := Lib.hid (hrd.out.step hk hb'.out)
                         have HLP := Lib.hid (HL7.out.put (k := k) (g := g) (f := stepM p.code M1 k) (by have := hgB.out; omega) HN7.out (j' := p.code.length) (fun i hi => Or.inl hi))
                         have y7 := HL7.out.ob.frozen k
                         go_wp2
                         go_roundw
                         case rel => exact ⟨k, _, _, b', by omega, by go_num, rfl, HLP, HRS⟩
                         case measure => simp [intOf]
end Go.Proofs.Ytodmkjeankbieab


namespace Go.Proofs.Ytodmkjeankbieab
open Go.RowKit Go.Sort Go.Maps

open Classical in
theorem SetAt.lookB {P : Program} {T K E : TypeId} {α : Type} {ok : α → Prop} {val : α → Value} {lit : α → Lit} (hT : SetTy P T K E ok val lit) {w : World} {b n : Nat} {S : α → Prop} (h : SetAt P K E ok lit w b n S) {x : α} (hx : ok x) (r : Bool) (hr : r = true ↔ S x) :
   (Instr.lookup T (.map (some b)) (val x) false).run P w = .ok (.bool r) w := by
 rw [h.look hT hx]
 have : decide (S x) = r := by rw [Bool.eq_iff_iff, hr, decide_eq_true_iff]
 rw [this]
structure FCnd (p : Pg) (sg sl : Nat) (ns : List Nat) : Prop where
 ns : ∀ n, n ∈ ns ↔ NumIn p n
 w1 : 1 ≤ p.wide.length
 w : p.wide.length ≤ 12
 c1 : 1 ≤ p.code.length
 c : p.code.length ≤ 40
 s : sg ≤ 16
 l : sl ≤ 12
theorem movesF_take {p : Pg} {S : FS} {l : List Mv} {k : Nat} {m : Mv} (h : l[k]? = some m) : movesF p S (l.take (k + 1)) = moveF p (movesF p S (l.take k)) m := by
 unfold movesF
 rw [List.take_add_one, h, List.foldl_append]; rfl

def MovesPost (w : World) (b : Nat) (Q : FS) (e : Ending) (w' : World) : Prop := ∃ b', e = .returned (.map (some b')) ∧ FSet w' b' 2400 Q ∧ Fr w w' ∧ (b' = b ∨ w.heap.size ≤ b')

set_option maxHeartbeats 8000000 in
set_option maxRecDepth 100000 in
theorem fmoves_any (gw : Nat) (R R' : Nat → Prop) (p : Pg) (sg sl : Nat) (ns : List Nat) (A : Option Addr) (c : Nat) (A' : Option Addr) (c' : Nat) (vp : Value) (An : Option Addr) (cn : Nat) (b : Nat) (S : FS) (v : Value) (l : List Mv) (w : World)
   (hW : FWd w gw R p sg sl ns A c A' c' vp An cn) (h : FSet w b 2400 S) (hu : InU p sg sl S) (hC : FCnd p sg sl ns) (hv : RdMv w R' v l) (hm : ∀ m ∈ l, mvB sg sl m = true ∧ m.n < 4294967296) (hR : ∀ x, R x → x < w.heap.size) :
   Calls Try.prog 119 #[.pointer (some ⟨gw, 0, none⟩), .map (some b), v] w (MovesPost w b (movesF p S l)) := by
 obtain ⟨A9, c9, rfl, hl, hr, _⟩ := hv
 unfold maxLen at hl
 have zg := hW.wb.lt
 have HR9 := Lib.hid hr
 have HW0 := Lib.hid hW
 have HS0 := Lib.hid h
 have HU := Lib.hid hu
 have HC := Lib.hid hC
 have HM := Lib.hid hm
 have HRR := Lib.hid hR
 have HDEF : Hid (∀ (e : Ending) (w' : World), (∃ b', e = .returned (.map (some b')) ∧ FSet w' b' 2400 (movesF p S l) ∧ Fr w w' ∧ (b' = b ∨ w.heap.size ≤ b')) → MovesPost w b (movesF p S l) e w') := fun _ _ h => h
 clear hr hW h hu hC hm hR
 go_enter Try.func119, Try.ntmps119
 go_wp2
 go_loopw [1, 11] (fun s i wr => ∃ k b' : Nat, k ≤ l.length ∧ s = .map (some b') ∧ i = .int .i64 k ∧ Hid (FSet wr b' 2400 (movesF p S (l.take k))) ∧ Hid (Fr w wr) ∧ (b' = b ∨ w.heap.size ≤ b')) (fun _ i _ => l.length - (intOf i).toNat)
 case atStart => exact ⟨0, b, Nat.zero_le _, rfl, rfl, HS0, Lib.hid (Kept.refl _ w), Or.inl rfl⟩
 case round =>
   obtain ⟨k, b', hk, rfl, rfl, hs, hf, hb⟩ := hrel
   by_cases hlt : k < l.length
   · obtain ⟨m, hx⟩ : ∃ m, l[k]? = some m := ⟨_, List.getElem?_eq_getElem hlt⟩
     obtain ⟨b3, o3, rfl, _, c0, c1, c2, c3, c4, c5⟩ := (HR9.out.kept hf.out (fun _ _ h => h)).mv hx
     have hbl := cell_lt c0
     have hmv := HM.out m (List.mem_of_getElem? hx)
     have HT : Hid (movesF p S (l.take (k + 1)) = moveF p (movesF p S (l.take k)) m) := movesF_take hx
     have hin := movesF_in (p := p) (sg := sg) (sl := sl) (l.take k) HU.out (fun x hx => (HM.out x (List.mem_of_mem_take hx)).1)
     have F8 : Fr wr (wr.alloc (.cells #[.int .i64 m.to.k, .int .i64 m.to.n, .int .i64 m.fr.k, .int .i64 m.fr.n, .bool m.c, .int .u32 (m.n : Int)] 74)) := (Kept.refl _ wr).alloc _
     have HF8 := Lib.hid (hf.out.trans F8)
     have HMV := Lib.hid (fmove_any gw R p sg sl ns A c A' c' vp An cn b' _ m _ (HW0.out.fr HF8.out) (hs.out.kept F8 (fun h => h)) hin hmv.1 hmv.2 HC.out.ns HC.out.w HC.out.c HC.out.s HC.out.l (fun x hx => Nat.lt_of_lt_of_le (HRR.out x hx) HF8.out.size))
     have zf := hf.out.size
     clear F8 hs hf hx hmv hin
     obtain ⟨⟨tk, tn⟩, ⟨fk, fn⟩, mc, n⟩ := m
     simp only at c0 c1 c2 c3 c4 c5 HMV
     unfold Mv.fval at HMV
     have hk0 : (0 : Int) ≤ (k : Int) := Int.natCast_nonneg _
     have hk1 : (k : Int) < (l.length : Int) := by omega
     go_wp2_with fail
     refine HMV.out.mono ?_
     rintro e w3 ⟨b4, rfl, s4, f4, h4⟩
     have HS4 := Lib.hid s4
     have HF4 := Lib.hid (HF8.out.trans f4)
     have h5 : w.heap.size ≤ b4 := by simp only [World.size_alloc] at h4; omega
     clear s4 f4 h4 c0 c1 c2 c3 c4 c5 HMV HF8 hbl zf
     go_wp2
     go_roundw
     case rel => exact ⟨k + 1, b4, by omega, rfl, by go_num, by rw [HT.out]; exact HS4, HF4, Or.inr h5⟩
     case measure => simp [intOf]; omega
   · obtain rfl : k = l.length := by omega
     have hs2 : Hid (FSet wr b' 2400 (movesF p S l)) := by
       have := hs.out
       rw [List.take_length] at this
       exact this
     go_wp2
     go_ret
     exact HDEF.out _ _ ⟨b', rfl, hs2.out, hf.out, hb⟩

def RwV.val (x : RwV) : Value := .agg #[.int .i64 x.r.d.k, .int .i64 x.r.d.n, .int .i64 x.r.a.k, .int .i64 x.r.a.n, .int .i64 x.r.b.k, .int .i64 x.r.b.n, x.vb, x.va]
structure RowCnd (p : Pg) (sg sl : Nat) (i : In) (r : Rw) : Prop where
 ok : InsOk p i
 mem : i ∈ p.code
 row : rwB p sg sl i r = true
 n : i.n < 4294967296
 bf : ∀ m ∈ r.before, m.n < 4294967296
 af : ∀ m ∈ r.after, m.n < 4294967296
def TookTo (Q : FS) (i : In) (r : Rw) (k : Nat) : Prop := ∀ j t, j < k → (uses i)[j]? = some t → Q (hasF (if j = 0 then r.a else r.b) t)
theorem tookTo_all {p : Pg} {S : FS} {i : In} {r : Rw} (hk : known i.op = true) : TookTo (movesF p S r.before) i r (uses i).length ↔ tookF p S i r := by
 have hm : many i.op ≤ 2 := by
   unfold many
   split
   · omega
   · split <;> omega
 unfold TookTo tookF uses
 constructor
 · intro h
   refine ⟨fun h0 => ?_, fun h1 => ?_⟩
   · exact h 0 i.a (by simp; omega) (by rw [List.getElem?_take, if_pos (by omega)]; rfl)
   · exact h 1 i.b (by simp; omega) (by rw [List.getElem?_take, if_pos (by omega)]; rfl)
 · rintro ⟨h0, h1⟩ j t hj ht
   rw [List.getElem?_take] at ht
   split at ht
   · rename_i hjm
     match j, ht, hjm with
     | 0, ht, hjm => cases ht; exact h0 (by omega)
     | 1, ht, hjm => cases ht; exact h1 (by omega)
     | j + 2, ht, _ => simp at ht
   · cases ht
theorem tookTo_s {Q : FS} {i : In} {r : Rw} {k : Nat} {t : Int} (hx : (uses i)[k]? = some t) : TookTo Q i r (k + 1) ↔ (TookTo Q i r k ∧ Q (hasF (if k = 0 then r.a else r.b) t)) := by
 unfold TookTo
 constructor
 · intro h
   exact ⟨fun j u hj hu => h j u (by omega) hu, h k t (by omega) hx⟩
 · rintro ⟨h1, h2⟩ j u hj hu
   by_cases e : j = k
   · subst e; rw [hx] at hu; cases hu; exact h2
   · exact h1 j u (by omega) hu
def ThruPost (w : World) (b : Nat) (p : Pg) (S : FS) (i : In) (r : Rw) (e : Ending) (w' : World) : Prop := ∃ (b' : Nat) (ok : Bool), e = .returned (.tuple #[.map (some b'), .bool ok]) ∧ FSet w' b' 2400 (thruF p S i r) ∧ (ok = true ↔ tookF p S i r) ∧ Fr w w' ∧ (b' = b ∨ w.heap.size ≤ b')

set_option maxHeartbeats 8000000 in
set_option maxRecDepth 100000 in
theorem through_any (gw : Nat) (R R' : Nat → Prop) (p : Pg) (sg sl : Nat) (ns : List Nat) (A : Option Addr) (c : Nat) (A' : Option Addr) (c' : Nat) (vp : Value) (An : Option Addr) (cn : Nat) (b : Nat) (S : FS) (i : In) (x : RwV) (w : World)
   (hW : FWd w gw R p sg sl ns A c A' c' vp An cn) (h : FSet w b 2400 S) (hu : InU p sg sl S) (hC : FCnd p sg sl ns) (hx : x.ok w R') (hr : RowCnd p sg sl i x.r) (hR : ∀ x, R x → x < w.heap.size) :
   Calls Try.prog 93 #[.pointer (some ⟨gw, 0, none⟩), .map (some b), i.val, x.val] w (ThruPost w b p S i x.r) := by
 obtain ⟨_, _, _, rbf, raf⟩ := hx
 have hafv := (show ∃ A c, x.va = .slice A x.r.after.length c ∧ True from let ⟨A, c, e, _⟩ := raf; ⟨A, c, e, trivial⟩)
 obtain ⟨r1, r2, r3, _⟩ := rwB_facts hr.row hr.ok.kn
 have F1 := Lib.hid (show Fr w ((w.alloc (.cells #[.int .i64 i.op, .int .i64 i.d, .int .i64 i.a, .int .i64 i.b, .int .i64 i.c, .int .u32 (i.n : Int)] 45)).alloc (.cells #[.int .i64 x.r.d.k, .int .i64 x.r.d.n, .int .i64 x.r.a.k, .int .i64 x.r.a.n, .int .i64 x.r.b.k, .int .i64 x.r.b.n, x.vb, x.va] 60)) from ((Kept.refl _ w).alloc _).alloc _)
 have BI1 := Lib.hid (show Blk ((w.alloc (.cells #[.int .i64 i.op, .int .i64 i.d, .int .i64 i.a, .int .i64 i.b, .int .i64 i.c, .int .u32 (i.n : Int)] 45)).alloc (.cells #[.int .i64 x.r.d.k, .int .i64 x.r.d.n, .int .i64 x.r.a.k, .int .i64 x.r.a.n, .int .i64 x.r.b.k, .int .i64 x.r.b.n, x.vb, x.va] 60)) w.heap.size 45 #[.int .i64 i.op, .int .i64 i.d, .int .i64 i.a, .int .i64 i.b, .int .i64 i.c, .int .u32 (i.n : Int)] from (Blk.new w _ _).alloc _)
 have BR1 := Lib.hid (show Blk ((w.alloc (.cells #[.int .i64 i.op, .int .i64 i.d, .int .i64 i.a, .int .i64 i.b, .int .i64 i.c, .int .u32 (i.n : Int)] 45)).alloc (.cells #[.int .i64 x.r.d.k, .int .i64 x.r.d.n, .int .i64 x.r.a.k, .int .i64 x.r.a.n, .int .i64 x.r.b.k, .int .i64 x.r.b.n, x.vb, x.va] 60)) (w.heap.size + 1) 60 #[.int .i64 x.r.d.k, .int .i64 x.r.d.n, .int .i64 x.r.a.k, .int .i64 x.r.a.n, .int .i64 x.r.b.k, .int .i64 x.r.b.n, x.vb, x.va] from by
   have := Blk.new (w.alloc (.cells #[.int .i64 i.op, .int .i64 i.d, .int .i64 i.a, .int .i64 i.b, .int .i64 i.c, .int .u32 (i.n : Int)] 45)) 60 #[.int .i64 x.r.d.k, .int .i64 x.r.d.n, .int .i64 x.r.a.k, .int .i64 x.r.a.n, .int .i64 x.r.b.k, .int .i64 x.r.b.n, x.vb, x.va]
   simpa using this)
 have HMB := Lib.hid (fmoves_any gw R R' p sg sl ns A c A' c' vp An cn b S x.vb x.r.before _ (hW.fr F1.out) (h.kept F1.out (fun h => h)) hu hC (rbf.kept F1.out (fun _ _ h => h)) (fun m hm => ⟨r1 m hm, hr.bf m hm⟩) (fun y hy => Nat.lt_of_lt_of_le (hR y hy) F1.out.size))
 have HU1 := Lib.hid (movesF_in (p := p) (sg := sg) (sl := sl) x.r.before hu r1)
 have HINS := Lib.hid (fun b2 w2 (hs : FSet w2 b2 2400 (movesF p S x.r.before)) => factIns_any gw p sg sl b2 (movesF p S x.r.before) i x.r.d w2 hs (movesF_in (p := p) (sg := sg) (sl := sl) x.r.before hu r1) hr.ok hr.mem r3 hr.n hC.w hC.c hC.s hC.l)
 have HU2 := Lib.hid (show InU p sg sl (insF (movesF p S x.r.before) i x.r.d) from by
   unfold insF
   split
   · rename_i hg
     exact giveF_in (movesF_in _ hu r1) hr.ok hg (r3 hg) hr.mem
   · exact movesF_in _ hu r1)
 have HMA := Lib.hid (fun b2 w2 (hf : Fr w w2) (hs : FSet w2 b2 2400 (insF (movesF p S x.r.before) i x.r.d)) => fmoves_any gw R R' p sg sl ns A c A' c' vp An cn b2 (insF (movesF p S x.r.before) i x.r.d) x.va x.r.after w2 (hW.fr hf) hs HU2.out hC (raf.kept hf (fun _ _ h => h)) (fun m hm => ⟨r2 m hm, hr.af m hm⟩) (fun y hy => Nat.lt_of_lt_of_le (hR y hy) hf.size))
 have HUS := Lib.hid (fun w2 => Uses_any i w2 hr.ok.kn)
 have HTK := Lib.hid (tookTo_all (p := p) (S := S) (i := i) (r := x.r) hr.ok.kn)
 have HULEN : (uses i).length ≤ 2 := by unfold uses; simp; omega
 have HUIN := Lib.hid (fun u (hu : u ∈ uses i) => uses_in hr.ok hu)
 have HDEF : Hid (∀ (e : Ending) (w' : World), (∃ (b' : Nat) (ok : Bool), e = .returned (.tuple #[.map (some b'), .bool ok]) ∧ FSet w' b' 2400 (movesF p (insF (movesF p S x.r.before) i x.r.d) x.r.after) ∧ (ok = true ↔ tookF p S i x.r) ∧ Fr w w' ∧ (b' = b ∨ w.heap.size ≤ b')) → ThruPost w b p S i x.r e w') := fun _ _ h => h
 have HTT : Hid (∀ k, TookTo (movesF p S x.r.before) i x.r k ↔ ∀ j t, j < k → (uses i)[j]? = some t → (movesF p S x.r.before) (hasF (if j = 0 then x.r.a else x.r.b) t)) := fun _ => Iff.rfl
 have HWL := Lib.hid hC.w
 have HAB := Lib.hid (show (0 < (uses i).length → x.r.a.ok) ∧ (1 < (uses i).length → x.r.b.ok) from by
   obtain ⟨_, _, _, q1, q2, _⟩ := rwB_facts hr.row hr.ok.kn
   unfold uses
   refine ⟨fun h0 => isB_ok (q1 (by simp at h0; omega)).2 hC.s hC.l, fun h1 => isB_ok (q2 (by simp at h1; omega)).2 hC.s hC.l⟩)
 clear hW h hu hC rbf raf hr hR r1 r2 r3
 obtain ⟨op, d, ia, ib, ic, n⟩ := i
 obtain ⟨⟨⟨dk, dn⟩, ⟨ak, an⟩, ⟨bk, bn⟩, bef, aft⟩, vb, va⟩ := x
 unfold In.val RwV.val
 simp only at *
 generalize movesF p S bef = S1 at *
 generalize hS2 : insF S1 ⟨op, d, ia, ib, ic, n⟩ ⟨dk, dn⟩ = S2 at *
 have HS2E := Lib.hid hS2
 clear hS2
 generalize movesF p S2 aft = S3 at *
 unfold In.val at HUS HINS
 unfold PlaceV.val at HINS
 simp only at HUS HINS
 go_enter Try.func93, Try.ntmps93
 go_wp2_with fail
 refine HMB.out.mono ?_
 rintro e w2 ⟨b1, rfl, s1, f2, h1⟩
 have HF2 := Lib.hid (F1.out.trans f2)
 have HS2 := Lib.hid s1
 have HI2 := Lib.hid (BI1.out.kept f2 (fun h => h))
 have HR2 := Lib.hid (BR1.out.kept f2 (fun h => h))
 have hb1 : b1 = b ∨ w.heap.size ≤ b1 := by
   rcases h1 with h1 | h1
   · exact Or.inl h1
   · simp only [World.size_alloc] at h1; exact Or.inr (by omega)
 clear s1 f2 h1 HMB F1 BI1 BR1
 have q0 := HI2.out.cell 0
 have q1 := HI2.out.cell 1
 have q2 := HI2.out.cell 2
 have q3 := HI2.out.cell 3
 have q4 := HI2.out.cell 4
 have q5 := HI2.out.cell 5
 have zq := HI2.out.lt
 simp only [List.getElem?_toArray, List.getElem?_cons_succ, List.getElem?_cons_zero] at q0 q1 q2 q3 q4 q5
 go_wp2_with fail
 refine (HUS.out _).mono ?_
 rintro e w3 ⟨vu, rfl, hru, f3⟩
 obtain ⟨Au, cu, rfl, _⟩ := id hru
 have HF3 := Lib.hid (HF2.out.trans f3)
 have HS3 := Lib.hid (HS2.out.kept f3 (fun h => h))
 have HI3 := Lib.hid (HI2.out.kept f3 (fun h => h))
 have HR3 := Lib.hid (HR2.out.kept f3 (fun h => h))
 have HRU := Lib.hid hru
 clear f3 HF2 HS2 HI2 HR2 hru q0 q1 q2 q3 q4 q5 zq HUS
 generalize hUL : uses (⟨op, d, ia, ib, ic, n⟩ : In) = ul at *
 go_wp2
 go_loopw [10, 21] (fun r i wr => ∃ (k : Nat) (x : Bool), k ≤ ul.length ∧ r = .bool x ∧ i = .int .i64 k ∧ Hid (x = true ↔ TookTo S1 ⟨op, d, ia, ib, ic, n⟩ ⟨⟨dk, dn⟩, ⟨ak, an⟩, ⟨bk, bn⟩, bef, aft⟩ k) ∧ Hid (Fr w3 wr)) (fun _ i _ => ul.length - (intOf i).toNat)
 case atStart => exact ⟨0, true, Nat.zero_le _, rfl, rfl, iff_of_true rfl (fun j t hj => by omega), Lib.hid (Kept.refl _ w3)⟩
 case round =>
   obtain ⟨k, x, hk, rfl, rfl, HT0, HF⟩ := hrel
   by_cases hlt : k < ul.length
   · obtain ⟨t, hx⟩ : ∃ t, ul[k]? = some t := ⟨_, List.getElem?_eq_getElem hlt⟩
     obtain ⟨b5, o5, c5, e5, _, hb5, c0⟩ := (HRU.out.kept HF.out (fun _ _ h => h)).at_ hx
     obtain ⟨rfl, _, rfl⟩ : Au = some ⟨b5, o5, none⟩ ∧ True ∧ cu = c5 := by simpa using e5
     clear e5
     have hit : inI t := by
       have h1 := HUIN.out t (List.mem_of_getElem? hx)
       have h2 := HWL.out
       unfold tempIn at h1
       unfold inI; omega
     have HX := Lib.hid (show (uses (⟨op, d, ia, ib, ic, n⟩ : In))[k]? = some t from by rw [hUL]; exact hx)
     clear hx
     have hk0 : (0 : Int) ≤ (k : Int) := Int.natCast_nonneg _
     have hk1 : (k : Int) < (ul.length : Int) := by omega
     have hRr := HR3.out.kept HF.out (fun h => h)
     have r2 := hRr.cell 2
     have r3 := hRr.cell 3
     have r4 := hRr.cell 4
     have r5 := hRr.cell 5
     have zr := hRr.lt
     simp only [List.getElem?_toArray, List.getElem?_cons_succ, List.getElem?_cons_zero] at r2 r3 r4 r5
     clear hRr
     have hkk : k = 0 ∨ k = 1 := by omega
     cases x with
     | false =>
       have HN : Hid (false = true ↔ TookTo S1 ⟨op, d, ia, ib, ic, n⟩ ⟨⟨dk, dn⟩, ⟨ak, an⟩, ⟨bk, bn⟩, bef, aft⟩ (k + 1)) := iff_of_false (by decide) (fun h => absurd (HT0.out.2 ((tookTo_s HX.out).1 h).1) (by decide))
       clear HT0 hkk
       go_wp2
       go_roundw
       case rel => exact ⟨k + 1, false, by omega, rfl, by go_num, HN, HF⟩
       case measure => simp [intOf]; omega
     | true =>
       rcases hkk with rfl | rfl
       · have hok := HAB.out.1 hlt
         have c0' : wr.cell? ⟨b5, o5, none⟩ = some (.int .i64 t) := c0
         have hk2 : (0 : Int) < (ul.length : Int) := by omega
         have hpi : ∀ w, (Instr.index 182 (.agg #[.int .i64 ak, .int .i64 an, .int .i64 bk, .int .i64 bn]) (.int .i64 0)).run Try.prog w = .ok (.agg #[.int .i64 ak, .int .i64 an]) w := fun _ => by kernel_rfl
         clear c0 hk0 hk1
         have hcast : ((0 : Nat) : Int) = 0 := rfl
         by_cases hq : S1 (hasF ⟨ak, an⟩ t)
         · have HN : Hid (true = true ↔ TookTo S1 ⟨op, d, ia, ib, ic, n⟩ ⟨⟨dk, dn⟩, ⟨ak, an⟩, ⟨bk, bn⟩, bef, aft⟩ (0 + 1)) := iff_of_true rfl ((tookTo_s HX.out).2 ⟨HT0.out.1 rfl, hq⟩)
           go_wp2_with (first
             | (go_at_call 116; refine (has_any ⟨ak, an⟩ t _).mono ?_; rintro e w9 ⟨rfl, f9⟩; have HF9 := Lib.hid ((show Fr w3 wr from HF.out).trans f9); have hlk := SetAt.lookB setTy (HS3.out.kept HF9.out (fun h => h)) (hasF_ok (a := ⟨ak, an⟩) hok hit) true (iff_of_true rfl hq); clear f9)
             | go_in)
           go_roundw
           case rel => exact ⟨0 + 1, true, by omega, rfl, rfl, (show Hid _ from iff_of_true rfl (HN.out.1 (by trivial))), HF9⟩
           case measure => simp [intOf]; omega
         · have HN : Hid (false = true ↔ TookTo S1 ⟨op, d, ia, ib, ic, n⟩ ⟨⟨dk, dn⟩, ⟨ak, an⟩, ⟨bk, bn⟩, bef, aft⟩ (0 + 1)) := iff_of_false (by decide) (fun h => hq ((tookTo_s HX.out).1 h).2)
           go_wp2_with (first
             | (go_at_call 116; refine (has_any ⟨ak, an⟩ t _).mono ?_; rintro e w9 ⟨rfl, f9⟩; have HF9 := Lib.hid ((show Fr w3 wr from HF.out).trans f9); have hlk := SetAt.lookB setTy (HS3.out.kept HF9.out (fun h => h)) (hasF_ok (a := ⟨ak, an⟩) hok hit) false (iff_of_false (by decide) hq); clear f9)
             | go_in)
           go_roundw
           case rel => exact ⟨0 + 1, false, by omega, rfl, rfl, HN, HF9⟩
           case measure => simp [intOf]; omega
       · have hok := HAB.out.2 hlt
         have c0' : wr.cell? ⟨b5, o5 + 1, none⟩ = some (.int .i64 t) := c0
         have hk2 : (1 : Int) < (ul.length : Int) := by omega
         have hpi : ∀ w, (Instr.index 182 (.agg #[.int .i64 ak, .int .i64 an, .int .i64 bk, .int .i64 bn]) (.int .i64 1)).run Try.prog w = .ok (.agg #[.int .i64 bk, .int .i64 bn]) w := fun _ => by kernel_rfl
         clear c0 hk0 hk1
         have hcast : ((1 : Nat) : Int) = 1 := rfl
         by_cases hq : S1 (hasF ⟨bk, bn⟩ t)
         · have HN : Hid (true = true ↔ TookTo S1 ⟨op, d, ia, ib, ic, n⟩ ⟨⟨dk, dn⟩, ⟨ak, an⟩, ⟨bk, bn⟩, bef, aft⟩ (1 + 1)) := iff_of_true rfl ((tookTo_s HX.out).2 ⟨HT0.out.1 rfl, hq⟩)
           go_wp2_with (first
             | (go_at_call 116; refine (has_any ⟨bk, bn⟩ t _).mono ?_; rintro e w9 ⟨rfl, f9⟩; have HF9 := Lib.hid ((show Fr w3 wr from HF.out).trans f9); have hlk := SetAt.lookB setTy (HS3.out.kept HF9.out (fun h => h)) (hasF_ok (a := ⟨bk, bn⟩) hok hit) true (iff_of_true rfl hq); clear f9)
             | go_in)
           go_roundw
           case rel => exact ⟨1 + 1, true, by omega, rfl, rfl, (show Hid _ from iff_of_true rfl (HN.out.1 (by trivial))), HF9⟩
           case measure => simp [intOf]; omega
         · have HN : Hid (false = true ↔ TookTo S1 ⟨op, d, ia, ib, ic, n⟩ ⟨⟨dk, dn⟩, ⟨ak, an⟩, ⟨bk, bn⟩, bef, aft⟩ (1 + 1)) := iff_of_false (by decide) (fun h => hq ((tookTo_s HX.out).1 h).2)
           go_wp2_with (first
             | (go_at_call 116; refine (has_any ⟨bk, bn⟩ t _).mono ?_; rintro e w9 ⟨rfl, f9⟩; have HF9 := Lib.hid ((show Fr w3 wr from HF.out).trans f9); have hlk := SetAt.lookB setTy (HS3.out.kept HF9.out (fun h => h)) (hasF_ok (a := ⟨bk, bn⟩) hok hit) false (iff_of_false (by decide) hq); clear f9)
             | go_in)
           go_roundw
           case rel => exact ⟨1 + 1, false, by omega, rfl, rfl, HN, HF9⟩
           case measure => simp [intOf]; omega
   · obtain rfl : k = ul.length := by omega
     have HTE := Lib.hid (HT0.out.trans HTK.out)
     have HS9 := Lib.hid (HS3.out.kept HF.out (fun h => h))
     have HF9 := Lib.hid (HF3.out.trans HF.out)
     have hI9 := HI3.out.kept HF.out (fun h => h)
     have hR9 := HR3.out.kept HF.out (fun h => h)
     have q0 := hI9.cell 0
     have q1 := hI9.cell 1
     have q2 := hI9.cell 2
     have q3 := hI9.cell 3
     have q4 := hI9.cell 4
     have q5 := hI9.cell 5
     have zq := hI9.lt
     have g0 := hR9.cell 0
     have g1 := hR9.cell 1
     have g7 := hR9.cell 7
     have zg := hR9.lt
     simp only [List.getElem?_toArray, List.getElem?_cons_succ, List.getElem?_cons_zero] at q0 q1 q2 q3 q4 q5 g0 g1 g7
     have zwr := HF9.out.size
     clear HT0 HTK HF HS3 HI3 HR3 HRU hI9 hR9 HF3
     obtain ⟨Aa, ca, rfl, _⟩ := id hafv
     go_wp2
     go_region_held3 (fun w' => w'.cell? ⟨w.heap.size, 0, none⟩ = some (.int .i64 op) ∧ w'.cell? ⟨w.heap.size, 1, none⟩ = some (.int .i64 d) ∧ w'.cell? ⟨w.heap.size, 2, none⟩ = some (.int .i64 ia) ∧ w'.cell? ⟨w.heap.size, 3, none⟩ = some (.int .i64 ib) ∧ w'.cell? ⟨w.heap.size, 4, none⟩ = some (.int .i64 ic) ∧ w'.cell? ⟨w.heap.size, 5, none⟩ = some (.int .u32 (n : Int)) ∧ w'.cell? ⟨w.heap.size + 1, 0, none⟩ = some (.int .i64 dk) ∧ w'.cell? ⟨w.heap.size + 1, 1, none⟩ = some (.int .i64 dn) ∧ w'.cell? ⟨w.heap.size + 1, 7, none⟩ = some (.slice Aa aft.length ca))
       (first
         | go_keep
         | exact sa
         | exact sb)
       (first
         | (go_at_call 120; refine (HINS.out b1 _ (HS9.out.kept ((Kept.refl (fun _ => False) wr).drew) (fun h => h))).mono ?_; rintro e wa ⟨b6, rfl, s6, f6, h6⟩; have fa := (Kept.refl (fun _ => False) _).trans f6; have sa := (show wa.cell? ⟨w.heap.size, 0, none⟩ = some (.int .i64 op) ∧ wa.cell? ⟨w.heap.size, 1, none⟩ = some (.int .i64 d) ∧ wa.cell? ⟨w.heap.size, 2, none⟩ = some (.int .i64 ia) ∧ wa.cell? ⟨w.heap.size, 3, none⟩ = some (.int .i64 ib) ∧ wa.cell? ⟨w.heap.size, 4, none⟩ = some (.int .i64 ic) ∧ wa.cell? ⟨w.heap.size, 5, none⟩ = some (.int .u32 (n : Int)) ∧ wa.cell? ⟨w.heap.size + 1, 0, none⟩ = some (.int .i64 dk) ∧ wa.cell? ⟨w.heap.size + 1, 1, none⟩ = some (.int .i64 dn) ∧ wa.cell? ⟨w.heap.size + 1, 7, none⟩ = some (.slice Aa aft.length ca) from ⟨(fa.cell zq (fun h => h)).trans q0, (fa.cell zq (fun h => h)).trans q1, (fa.cell zq (fun h => h)).trans q2, (fa.cell zq (fun h => h)).trans q3, (fa.cell zq (fun h => h)).trans q4, (fa.cell zq (fun h => h)).trans q5, (fa.cell zg (fun h => h)).trans g0, (fa.cell zg (fun h => h)).trans g1, (fa.cell zg (fun h => h)).trans g7⟩); have fwa := (show Fr w wr from HF9.out).trans ((Kept.refl (fun _ => False) wr).drew.trans fa); have s6b := (show FSet wa b6 2400 S2 from HS2E.out ▸ s6))
         | (go_at_call 119; refine (HMA.out b6 _ fwa s6b).mono ?_; rintro e wb ⟨b7, rfl, s7, f7, h7⟩; have fb := fa.trans f7; have sb := (show wb.cell? ⟨w.heap.size, 0, none⟩ = some (.int .i64 op) ∧ wb.cell? ⟨w.heap.size, 1, none⟩ = some (.int .i64 d) ∧ wb.cell? ⟨w.heap.size, 2, none⟩ = some (.int .i64 ia) ∧ wb.cell? ⟨w.heap.size, 3, none⟩ = some (.int .i64 ib) ∧ wb.cell? ⟨w.heap.size, 4, none⟩ = some (.int .i64 ic) ∧ wb.cell? ⟨w.heap.size, 5, none⟩ = some (.int .u32 (n : Int)) ∧ wb.cell? ⟨w.heap.size + 1, 0, none⟩ = some (.int .i64 dk) ∧ wb.cell? ⟨w.heap.size + 1, 1, none⟩ = some (.int .i64 dn) ∧ wb.cell? ⟨w.heap.size + 1, 7, none⟩ = some (.slice Aa aft.length ca) from ⟨(fb.cell zq (fun h => h)).trans q0, (fb.cell zq (fun h => h)).trans q1, (fb.cell zq (fun h => h)).trans q2, (fb.cell zq (fun h => h)).trans q3, (fb.cell zq (fun h => h)).trans q4, (fb.cell zq (fun h => h)).trans q5, (fb.cell zg (fun h => h)).trans g0, (fb.cell zg (fun h => h)).trans g1, (fb.cell zg (fun h => h)).trans g7⟩)))
     rename_i hHeld
     clear hHeld
     have HFIN := Lib.hid (fwa.trans f7)
     have HS7 := Lib.hid s7
     have hb7 : b7 = b ∨ w.heap.size ≤ b7 := by
       have zz := fa.size
       have z1 : wr.drew.heap.size = wr.heap.size := rfl
       have z2 := fwa.size
       omega
     clear sa sb fa fb f6 f7 fwa s6 s6b s7 h6 h7 q0 q1 q2 q3 q4 q5 zq g0 g1 g7 zg
     go_wp2
     go_ret2
     exact HDEF.out _ _ ⟨b7, x, rfl, HS7.out, HTE.out, HFIN.out, hb7⟩
end Go.Proofs.Ytodmkjeankbieab

