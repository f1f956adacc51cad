/- RefPlay7, SortInt: texts of this claim, packed into one file. -/
import Derived.Test.YtodmkjeankbieabKCheckIdlek16
import Derived.Test.YtodmkjeankbieabKCheckIdlek12
import Derived.Test.YtodmkjeankbieabKCheckIdlek2
import Derived.Test.YtodmkjeankbieabKCheckIdlek0
import Derived.Deep.Cut
import Derived.Deep.CutRange
import Derived.Shelf.SlSortCmp.Insertion
/- The walk of the reference of chapter 7: Play. -/
namespace Go.Proofs.Ytodmkjeankbieab
open Go.RowKit Go.Sort

theorem made_mkV (n : Nat) : madeCells #[.int .u32 0] n = mkV n (fun _ => 0) := by
  unfold mkV
  apply Array.ext_getElem?
  intro i
  unfold madeCells
  rcases Nat.lt_or_ge i n with h | h
  · simp [List.getElem?_range h, h, Nat.mod_one]
  · simp [List.getElem?_eq_none, h, Nat.not_lt.2 h]
theorem infoU32 : (Try.prog.info? 36).map (fun i => (i.zero, i.size, i.bytes)) = some (some (.int .u32 0), 1, 4) := by kernel_rfl
theorem run_make_u32s (n : Nat) (h : n ≤ 1000000) (w : World) : (Instr.makeSlice 26 (.int .i64 (n : Int)) (.int .i64 (n : Int))).run Try.prog w = .ok (.slice (some ⟨w.heap.size, 0, none⟩) n n) (w.alloc (.cells (mkV n fun _ => 0) 36)) := by
  rw [← made_mkV]
  exact run_make_row' 26 36 (.int .u32 0) 4 Try.underlying26 infoU32 rfl .i64 .i64 n (by omega) (by omega) w

/-- what may be has its places, in the reference's store -/
theorem rhas_is {nS nL : Nat} {a : PlaceV} (h : isB nS nL a = true) (h2 : nS % 2 = 0) : RHas nS nL a := by
  unfold isB at h
  have h := of_decide_eq_true h
  refine ⟨fun e => ?_, fun e => ?_, fun e => ?_⟩
  · rw [if_pos e] at h; omega
  · rw [if_neg (by omega), if_pos e] at h; omega
  · rw [if_neg (by omega), if_neg (by omega), if_pos e] at h; omega
theorem rhas_pl {wide : List Bool} {nS nL : Nat} {l : UInt8} {t : Int} {a : PlaceV} (h : plB wide nS nL l t a = true) (h2 : nS % 2 = 0) : RHas nS nL a := by
  unfold plB at h
  simp only [Bool.and_eq_true, decide_eq_true_eq] at h
  obtain ⟨⟨hk, _⟩, h3⟩ := h
  by_cases e : kindV wide l t = 0
  · rw [e] at hk
    exact ⟨fun e => by omega, fun e => by omega, fun e => by omega⟩
  · rw [decide_eq_true e] at h3
    exact rhas_is (by simpa using h3) h2
theorem rhas_mv {nS nL : Nat} {m : Mv} (h : mvB nS nL m = true) (hn : m.n < 4294967296) (h2 : nS % 2 = 0) : RMvHas nS nL m := by
  unfold mvB at h
  rw [Bool.and_eq_true] at h
  refine ⟨rhas_is h.1 h2, fun e => ?_, fun e => ?_, hn⟩
  · have h3 := h.2
    rw [e] at h3
    simp only [Bool.false_eq_true, if_false, Bool.and_eq_true] at h3
    exact rhas_is h3.1.2 h2
  · have h3 := h.2
    rw [e] at h3
    simp only [if_true, Bool.and_eq_true, decide_eq_true_eq] at h3
    exact h3.1
/-- a row's places, in the reference's store -/
structure RRwHas (nS nL : Nat) (r : Rw) : Prop where
  d : RHas nS nL r.d
  a : RHas nS nL r.a
  b : RHas nS nL r.b
  bef : ∀ m ∈ r.before, RMvHas nS nL m
  aft : ∀ m ∈ r.after, RMvHas nS nL m
theorem rhas_rw {p : Pg} {nS nL : Nat} {i : In} {r : Rw} (h : rwB p nS nL i r = true) (hb : ∀ m ∈ r.before, m.n < 4294967296) (ha : ∀ m ∈ r.after, m.n < 4294967296) (h2 : nS % 2 = 0) : RRwHas nS nL r := by
  unfold rwB mvsB at h
  simp only [Bool.and_eq_true, List.all_eq_true, decide_eq_true_eq] at h
  obtain ⟨⟨⟨hd, hA⟩, hB⟩, ⟨⟨hbf, hbl⟩, ⟨haf, hal⟩⟩, _⟩ := h
  exact ⟨rhas_pl hd h2, rhas_pl hA h2, rhas_pl hB h2, fun m hm => rhas_mv (hbf m hm) (hb m hm) h2, fun m hm => rhas_mv (haf m hm) (ha m hm) h2⟩

/-- what the loop holds in memory -/
structure P7 (w wr : World) (c0 c2 : Array Value) (gS gL gT nS nL : Nat) (s : Sto) (vo : Value) (out : List Int) (st sn : Nat) : Prop where
  bp : Blk wr w.heap.size 25 c0
  bl : Blk wr (w.heap.size + 2) 50 c2
  br : Blk wr (w.heap.size + 3) 28 #[.int .i64 0, .slice none 0 0, .int .i64 0]
  bx : Blk wr (w.heap.size + 4) 28 #[.int .i64 (st : Int), vo, .int .i64 (sn : Int)]
  bT : Blk wr gT 109 #[.slice (some ⟨gS, 0, none⟩) nS nS, .slice (some ⟨gL, 0, none⟩) nL nL]
  rs : RSto wr gS gL nS nL s
  ow : wr.ownsRow w.heap.size 36 1 vo out.length (u32s out)
  no : ∀ k, vo.ownBlock = some k → k ≠ gS
  fr : Fr w wr
  hS : w.heap.size ≤ gS
  hL : w.heap.size ≤ gL
section
variable {w wr w2 : World} {c0 c2 : Array Value} {gS gL gT nS nL : Nat} {s s' : Sto} {vo v2 : Value} {out : List Int} {st sn : Nat}
theorem P7.keep (h : P7 w wr c0 c2 gS gL gT nS nL s vo out st sn) (hk : Fr wr w2) : P7 w w2 c0 c2 gS gL gT nS nL s vo out st sn :=
  ⟨h.bp.kept hk (fun h => h), h.bl.kept hk (fun h => h), h.br.kept hk (fun h => h), h.bx.kept hk (fun h => h), h.bT.kept hk (fun h => h), h.rs.kept hk (fun h => h) (fun h => h), own_kept h.ow hk (fun _ _ h => h), h.no, h.fr.trans hk, h.hS, h.hL⟩
theorem P7.blk {t : TypeId} {g : Nat} {cs : Array Value} (h : P7 w wr c0 c2 gS gL gT nS nL s vo out st sn) (hb : Blk wr g t cs) (h1 : t ≠ 36) (h2 : t ≠ 81) : ¬ RS2 gS gL g := by
  rintro (e | e)
  · exact hb.ne_ h.rs.sb h1 e
  · exact hb.ne_ h.rs.lb h2 e
theorem P7.put (h : P7 w wr c0 c2 gS gL gT nS nL s vo out st sn) (hk : Kept (RS2 gS gL) wr w2) (hr : RSto w2 gS gL nS nL s') : P7 w w2 c0 c2 gS gL gT nS nL s' vo out st sn := by
  refine ⟨h.bp.kept hk (h.blk h.bp (by decide) (by decide)), h.bl.kept hk (h.blk h.bl (by decide) (by decide)), h.br.kept hk (h.blk h.br (by decide) (by decide)), h.bx.kept hk (h.blk h.bx (by decide) (by decide)),
    h.bT.kept hk (h.blk h.bT (by decide) (by decide)), hr, own_kept h.ow hk (fun k hk e => ?_), h.no, h.fr.then hk (fun i hi e => ?_), h.hS, h.hL⟩
  · rcases e with e | e
    · exact h.no k hk e
    · exact own_blk_ne h.ow h.rs.lb (by decide) (e ▸ hk)
  · have := h.hS; have := h.hL
    rcases e with e | e <;> omega
theorem P7.app {n0 : Nat} {a : Int} (h : P7 w wr c0 c2 gS gL gT nS nL s vo out st sn) (hk : Kept (fun k => vo.ownBlock = some k) wr w2) (ho : w2.ownsRow w.heap.size 36 1 v2 (out.length + 1) (u32s out ++ [.int .u32 a]))
    (hat : v2.ownBlock = vo.ownBlock ∨ v2.ownBlock = some n0) (hn0 : gS < n0) : P7 w (w2.setCell ⟨w.heap.size + 4, 1, none⟩ v2) c0 c2 gS gL gT nS nL s v2 (out ++ [a]) st sn := by
  have hx := h.bx.kept hk (own_blk_ne h.ow h.bx (by decide))
  have hK : Kept (fun k => k = w.heap.size + 4) w2 (w2.setCell ⟨w.heap.size + 4, 1, none⟩ v2) := (Kept.refl (fun k => k = w.heap.size + 4) w2).setCell (p := ⟨w.heap.size + 4, 1, none⟩) (fun _ => rfl) _
  refine ⟨(h.bp.kept hk (own_blk_ne h.ow h.bp (by decide))).kept hK (by omega), (h.bl.kept hk (own_blk_ne h.ow h.bl (by decide))).kept hK (by omega), (h.br.kept hk (own_blk_ne h.ow h.br (by decide))).kept hK (by omega), hx.set_ 1 v2,
    (h.bT.kept hk (own_blk_ne h.ow h.bT (by decide))).kept hK (h.bT.ne_ h.bx (by decide)), (h.rs.kept hk (fun e => h.no _ e rfl) (own_blk_ne h.ow h.rs.lb (by decide))).kept hK (h.rs.sb.ne_ h.bx (by decide)) (h.rs.lb.ne_ h.bx (by decide)), ?_, ?_, ?_, h.hS, h.hL⟩
  · have h2 := own_kept ho hK (fun k hk e => own_blk_ne ho hx (by decide) (e ▸ hk))
    rw [List.length_append, show u32s (out ++ [a]) = u32s out ++ [.int .u32 a] by simp [u32s]]
    exact h2
  · intro k hk
    rcases hat with e | e
    · exact h.no k (e ▸ hk)
    · rw [e] at hk; cases hk; omega
  · exact (h.fr.app h.ow hk).then hK (fun i hi e => by omega)
theorem P7.fin (h : P7 w wr c0 c2 gS gL gT nS nL s vo out st sn) (st' sn' : Nat) :
    P7 w ((wr.setCell ⟨w.heap.size + 4, 0, none⟩ (.int .i64 (st' : Int))).setCell ⟨w.heap.size + 4, 2, none⟩ (.int .i64 (sn' : Int))) c0 c2 gS gL gT nS nL s vo out st' sn' := by
  have hK : Kept (fun k => k = w.heap.size + 4) wr ((wr.setCell ⟨w.heap.size + 4, 0, none⟩ (.int .i64 (st' : Int))).setCell ⟨w.heap.size + 4, 2, none⟩ (.int .i64 (sn' : Int))) :=
    ((Kept.refl (fun k => k = w.heap.size + 4) wr).setCell (p := ⟨w.heap.size + 4, 0, none⟩) (fun _ => rfl) _).setCell (p := ⟨w.heap.size + 4, 2, none⟩) (fun _ => rfl) _
  exact ⟨h.bp.kept hK (by omega), h.bl.kept hK (by omega), h.br.kept hK (by omega), (h.bx.set_ 0 _).set_ 2 _, h.bT.kept hK (h.bT.ne_ h.bx (by decide)), h.rs.kept hK (h.rs.sb.ne_ h.bx (by decide)) (h.rs.lb.ne_ h.bx (by decide)),
    own_kept h.ow hK (fun k hk e => own_blk_ne h.ow h.bx (by decide) (e ▸ hk)), h.no, h.fr.then hK (fun i hi e => by omega), h.hS, h.hL⟩
end

/-- three that are made -/
theorem three (W : World) (e1 e2 e3 : TypeId) (c1 c2 c3 : Array Value) : Blk (((W.alloc (.cells c1 e1)).alloc (.cells c2 e2)).alloc (.cells c3 e3)) W.heap.size e1 c1 ∧ Blk (((W.alloc (.cells c1 e1)).alloc (.cells c2 e2)).alloc (.cells c3 e3)) (W.heap.size + 1) e2 c2 ∧
    Blk (((W.alloc (.cells c1 e1)).alloc (.cells c2 e2)).alloc (.cells c3 e3)) (W.heap.size + 1 + 1) e3 c3 ∧ Fr W (((W.alloc (.cells c1 e1)).alloc (.cells c2 e2)).alloc (.cells c3 e3)) := by
  refine ⟨((Blk.new W _ _).alloc _).alloc _, ?_, ?_, (((Kept.refl _ W).alloc _).alloc _).alloc _⟩
  · have := (Blk.new (W.alloc (.cells c1 e1)) e2 c2).alloc (.cells c3 e3)
    simpa using this
  · have := Blk.new ((W.alloc (.cells c1 e1)).alloc (.cells c2 e2)) e3 c3
    simpa using this
/-- the world when all have been boxed -/
def p7W (w : World) (c0 c1 c2 : Array Value) : World :=
  ((((w.alloc (.cells c0 25)).alloc (.cells c1 47)).alloc (.cells c2 50)).alloc (.cells #[.int .i64 0, .slice none 0 0, .int .i64 0] 28)).alloc (.cells #[.int .i64 0, .slice none 0 0, .int .i64 0] 28)
structure Q7 (w W : World) (c0 c1 c2 : Array Value) : Prop where
  q : QD w W c0 c1 c2
  b4 : Blk W (w.heap.size + 4) 28 #[.int .i64 0, .slice none 0 0, .int .i64 0]
  z : W.heap.size = w.heap.size + 5
theorem Q7.start (w : World) (c0 c1 c2 : Array Value) : Q7 w (p7W w c0 c1 c2) c0 c1 c2 := by
  refine ⟨(QD.start w c0 c1 c2).keep ((Kept.refl _ _).alloc _), ?_, ?_⟩
  · have := Blk.new ((((w.alloc (.cells c0 25)).alloc (.cells c1 47)).alloc (.cells c2 50)).alloc (.cells #[.int .i64 0, .slice none 0 0, .int .i64 0] 28)) 28 #[.int .i64 0, .slice none 0 0, .int .i64 0]
    simpa [p7W] using this
  · simp [p7W]
theorem P7.start {w W W2 : World} {c0 c1 c2 : Array Value} {gS gL gT nS nL : Nat} (h : Q7 w W c0 c1 c2) (hk : Fr W W2) (hT : Blk W2 gT 109 #[.slice (some ⟨gS, 0, none⟩) nS nS, .slice (some ⟨gL, 0, none⟩) nL nL])
    (hs : Blk W2 gS 36 (mkV nS fun _ => 0)) (hl : Blk W2 gL 81 (mkU nL fun _ => 0)) (h1 : W.heap.size ≤ gS) (h2 : W.heap.size ≤ gL) : P7 w W2 c0 c2 gS gL gT nS nL ⟨fun _ => 0, fun _ => 0⟩ (.slice none 0 0) [] 0 0 :=
  ⟨h.q.b0.kept hk (fun h => h), h.q.b2.kept hk (fun h => h), h.q.b3.kept hk (fun h => h), h.b4.kept hk (fun h => h), hT, ⟨hs, hl⟩, ⟨rfl, Or.inl ⟨rfl, rfl⟩⟩, fun k hk => by simp [Value.ownBlock] at hk, h.q.fr.trans hk, by have := h.z; omega, by have := h.z; omega⟩

theorem s7_of {W0 W : World} {a b : Addr} {x y : Option Value} (h1 : W0.cell? a = x) (h2 : W0.cell? b = y) (ha : a.block < W0.heap.size) (hb : b.block < W0.heap.size) (hk : Kept (fun _ => False) W0 W) : Fr W0 W ∧ W.cell? a = x ∧ W.cell? b = y :=
  ⟨hk, (Kept.cell hk (p := a) ha (fun h => h)).trans h1, (Kept.cell hk (p := b) hb (fun h => h)).trans h2⟩

set_option maxHeartbeats 8000000 in
set_option maxRecDepth 100000 in
theorem refPlay7_any (R R' : Nat → Prop) (v vl : Value) (p : Pg) (sg : Int) (l : Pd) (Ai : Option Addr) (ins : List Int) (ci n : Nat) (w : World) (h : RdPg w R v p) (hL : RdPd w R' vl l) (hm : mayL p sg l = true) (hl : ins.length ≤ 40) (hr : Reads w R 1 Ai ins.length (u32s ins))
    (hi : ∀ n ∈ ins, 0 ≤ n ∧ n < 4294967296) (hn : n ≤ 3000) :
    Calls Try.prog 26 #[v, tgV sg, vl, .slice Ai ins.length ci, .int .i64 (n : Int)] w fun e w' => ∃ v', e = .returned v' ∧ RdSh w' (fun b => w.heap.size ≤ b) v' (doneV p l.rows ins n) ∧ Fr w w' := by
  have H := Lib.hid h
  obtain ⟨vw, vc, rfl, ⟨A1, c1, rfl, hl1, hr1⟩, ⟨A, c, rfl, hl2, hr2, ho2⟩⟩ := h
  obtain ⟨vr, lv, rfl, hsl, ⟨Al, cl, rfl, hlr, hrr, hor⟩, hrows⟩ := hL
  have HC := Lib.hid (hr2.old (by decide))
  have HRL := Lib.hid (hrr.old (by decide))
  have HRO := Lib.hid (fun x hx => (hor x hx).old)
  have HROWS := Lib.hid hrows
  have HO := Lib.hid ho2
  have HINS := Lib.hid hr
  have HI := Lib.hid hi
  have HM := Lib.hid hm
  obtain ⟨hmb, htg, hs0, hs1, hlen⟩ := mayL_facts hm
  obtain ⟨l1, l2, l3, l4⟩ := mayB_len hmb
  have HLV := Lib.hid (show lv.length = p.code.length by rw [← hlen, hrows, List.length_map])
  have htg' : 4 ≤ sg ∧ sg ≤ 16 ∧ sg % 2 = 0 := by unfold tgB at htg; simpa [and_assoc] using htg
  obtain ⟨nS, rfl⟩ : ∃ nS : Nat, sg = (nS : Int) := ⟨sg.toNat, by omega⟩
  obtain ⟨nL, hnL⟩ : ∃ nL : Nat, l.slots = (nL : Int) := ⟨l.slots.toNat, by omega⟩
  rw [hnL] at hs0 hs1 ⊢
  have hnS1 : nS ≤ 16 := by omega
  have hnL1 : nL ≤ 12 := by omega
  have hnS2 : nS % 2 = 0 := by omega
  have HSL := Lib.hid hnL
  unfold maxLen at hl1 hl2 hlr
  clear hr1 hr2 ho2 hr hi hm hrr hor hrows hsl hmb htg htg' hs0 hs1 hlen hnL
  have hmk1 := run_make_u32s nS (by omega)
  have hmk2 := run_make_u64s nL (by omega)
  have HQ := Lib.hid (Q7.start w #[.slice A1 p.wide.length c1, .slice A p.code.length c] #[.int .i64 nS] #[.int .i64 nL, .slice Al lv.length cl])
  unfold p7W at HQ
  unfold tgV
  go_enter Try.func26, Try.ntmps26
  go_upto_region 2 with (fail)
  generalize ((((w.alloc (.cells #[.slice A1 p.wide.length c1, .slice A p.code.length c] 25)).alloc (.cells #[.int .i64 nS] 47)).alloc (.cells #[.int .i64 nL, .slice Al lv.length cl] 50)).alloc (.cells #[.int .i64 0, .slice none 0 0, .int .i64 0] 28)).alloc (.cells #[.int .i64 0, .slice none 0 0, .int .i64 0] 28) = W0 at *
  have t1 := HQ.out.q.b1.cell 0
  have t2 := HQ.out.q.b2.cell 0
  simp only [List.getElem?_toArray, List.getElem?_cons_succ, List.getElem?_cons_zero] at t1 t2
  have z1 := HQ.out.q.b1.lt
  have z2 := HQ.out.q.b2.lt
  have t2' : W0.cell? ⟨w.heap.size + 1 + 1, 0, none⟩ = some (.int .i64 nL) := t2
  have z2' : w.heap.size + 1 + 1 < W0.heap.size := z2
  go_cut [12] from 22 to 28 (fun pT wx => ∃ gS gL gT : Nat, pT = .pointer (some ⟨gT, 0, none⟩) ∧ Hid (P7 w wx #[.slice A1 p.wide.length c1, .slice A p.code.length c] #[.int .i64 nL, .slice Al lv.length cl] gS gL gT nS nL ⟨fun _ => 0, fun _ => 0⟩ (.slice none 0 0) [] 0 0))
  case first =>
    go_region_held3 (fun w' => Fr W0 w' ∧ w'.cell? ⟨w.heap.size + 1, 0, none⟩ = some (.int .i64 nS) ∧ w'.cell? ⟨w.heap.size + 1 + 1, 0, none⟩ = some (.int .i64 nL))
      (first
        | exact s7_of t1 t2' z1 z2' (Kept.refl _ W0).drew
        | exact s7_of t1 t2' z1 z2' ((Kept.refl _ W0).alloc _).drew
        | exact s7_of t1 t2' z1 z2' (((Kept.refl _ W0).alloc _).alloc _).drew
        | exact s7_of t1 t2' z1 z2' ((((Kept.refl _ W0).alloc _).alloc _).alloc _).drew)
      (fail)
    · go_wp2
      go_meet
      obtain ⟨b0, b1, b2, hf⟩ := three W0 36 81 109 (mkV nS fun _ => 0) (mkU nL fun _ => 0) #[.slice (some ⟨W0.heap.size, 0, none⟩) nS nS, .slice (some ⟨W0.heap.size + 1, 0, none⟩) nL nL]
      exact ⟨W0.heap.size, W0.heap.size + 1, W0.heap.size + 1 + 1, rfl, P7.start HQ.out hf.drew b2 b0 b1 (by omega) (by omega)⟩
    · go_wp2
      go_meet
      obtain ⟨b0, b1, b2, hf⟩ := three W0 36 109 81 (mkV nS fun _ => 0) #[.slice (some ⟨W0.heap.size, 0, none⟩) nS nS, .slice (some ⟨W0.heap.size + 1 + 1, 0, none⟩) nL nL] (mkU nL fun _ => 0)
      exact ⟨W0.heap.size, W0.heap.size + 1 + 1, W0.heap.size + 1, rfl, P7.start HQ.out hf.drew b1 b0 b2 (by omega) (by omega)⟩
    · go_wp2
      go_meet
      obtain ⟨b0, b1, b2, hf⟩ := three W0 81 36 109 (mkU nL fun _ => 0) (mkV nS fun _ => 0) #[.slice (some ⟨W0.heap.size + 1, 0, none⟩) nS nS, .slice (some ⟨W0.heap.size, 0, none⟩) nL nL]
      exact ⟨W0.heap.size + 1, W0.heap.size, W0.heap.size + 1 + 1, rfl, P7.start HQ.out hf.drew b2 b1 b0 (by omega) (by omega)⟩
    · go_wp2
      go_meet
      obtain ⟨b0, b1, b2, hf⟩ := three W0 81 109 36 (mkU nL fun _ => 0) #[.slice (some ⟨W0.heap.size + 1 + 1, 0, none⟩) nS nS, .slice (some ⟨W0.heap.size, 0, none⟩) nL nL] (mkV nS fun _ => 0)
      exact ⟨W0.heap.size + 1 + 1, W0.heap.size, W0.heap.size + 1, rfl, P7.start HQ.out hf.drew b1 b2 b0 (by omega) (by omega)⟩
    · go_wp2
      go_meet
      obtain ⟨b0, b1, b2, hf⟩ := three W0 109 36 81 #[.slice (some ⟨W0.heap.size + 1, 0, none⟩) nS nS, .slice (some ⟨W0.heap.size + 1 + 1, 0, none⟩) nL nL] (mkV nS fun _ => 0) (mkU nL fun _ => 0)
      exact ⟨W0.heap.size + 1, W0.heap.size + 1 + 1, W0.heap.size, rfl, P7.start HQ.out hf.drew b0 b1 b2 (by omega) (by omega)⟩
    · go_wp2
      go_meet
      obtain ⟨b0, b1, b2, hf⟩ := three W0 109 81 36 #[.slice (some ⟨W0.heap.size + 1 + 1, 0, none⟩) nS nS, .slice (some ⟨W0.heap.size + 1, 0, none⟩) nL nL] (mkU nL fun _ => 0) (mkV nS fun _ => 0)
      exact ⟨W0.heap.size + 1 + 1, W0.heap.size + 1, W0.heap.size, rfl, P7.start HQ.out hf.drew b0 b2 b1 (by omega) (by omega)⟩
  case rest =>
    obtain ⟨gS, gL, gT, rfl, HP0⟩ := hcut
    clear t1 t2 z1 z2 HQ
    go_wp2
    go_loopw [13, 14] (fun at_ tk wr => ∃ (x : Sh × Sto) (k : Nat) (vo : Value), at_ = .int .i64 (x.1.pc : Int) ∧ tk = .int .i64 (k : Int) ∧ k ≤ ins.length ∧ Hid (x.1.ins = ins.drop k) ∧ Hid (At p.code (mPlaces p l.rows) (sh0 ins, ⟨fun _ => 0, fun _ => 0⟩) n x) ∧ Hid (StOk x.2) ∧
      Hid (P7 w wr #[.slice A1 p.wide.length c1, .slice A p.code.length c] #[.int .i64 nL, .slice Al lv.length cl] gS gL gT nS nL x.2 vo x.1.out x.1.state x.1.steps)) (fun _ _ wr => n - (match wr.cell? ⟨w.heap.size + 4, 2, none⟩ with | some v => (intOf v).toNat | none => 0))
    case atStart => exact ⟨(sh0 ins, ⟨fun _ => 0, fun _ => 0⟩), 0, .slice none 0 0, rfl, rfl, by omega, rfl, At.start _ ins l3, StOk.zero, HP0⟩
    case round =>
      obtain ⟨x, k, vo, rfl, rfl, hk, hin, hat, hS, HP⟩ := hrel
      have bp0 := HP.out.bp.cell 0
      have bp1 := HP.out.bp.cell 1
      have bl1 := HP.out.bl.cell 1
      have s0 := HP.out.bx.cell 0
      have s1' := HP.out.bx.cell 1
      have s2 := HP.out.bx.cell 2
      have zp := HP.out.bp.lt
      have zl := HP.out.bl.lt
      have zx := HP.out.bx.lt
      have t0 := HP.out.bT.cell 0
      have t1 := HP.out.bT.cell 1
      have zT := HP.out.bT.lt
      simp only [List.getElem?_toArray, List.getElem?_cons_succ, List.getElem?_cons_zero] at bp0 bp1 bl1 s0 s1' s2 t0 t1
      have hle := hat.out.le
      by_cases hgo : x.1.state = 0 ∧ x.1.steps < n
      · obtain ⟨hst, hs⟩ := hgo
        rw [hst] at s0
        have hpc := hat.out.st0 hst
        have hs0 : (x.1.steps : Int) < (n : Int) := by omega
        obtain ⟨hmb, _, _, _, hlen⟩ := mayL_facts HM.out
        have hI := mayB_ins hmb (inAt_mem hpc)
        obtain ⟨_, _, _, hc0⟩ := ins_fields hI l1
        have hok := insOk hI
        have hx : p.code[x.1.pc]? = some (inAt p.code x.1.pc) := by rw [inAt_get hpc]; exact List.getElem?_eq_getElem hpc
        have hn32 := (HO.out _ (inAt_mem hpc)).2.2.2.2.2
        obtain ⟨b, off, rfl, hbB, d0, d1, d2, d3, d4, d5⟩ := (HC.out.kept HP.out.fr (fun _ _ h => h)).ins hx
        have hlv := HLV.out
        have hyl : x.1.pc < lv.length := by omega
        have hy : lv[x.1.pc]? = some lv[x.1.pc] := List.getElem?_eq_getElem hyl
        obtain ⟨b2, off2, rfl, hbB2, k0, k1, k2, k3, k4, k5, k6, k7⟩ := (HRL.out.kept HP.out.fr (fun _ _ h => h)).rw hy
        have hyo := (HRO.out _ (List.mem_of_getElem? hy)).kept HP.out.fr (fun _ _ h => h)
        have hye : rwAt l.rows x.1.pc = lv[x.1.pc].r := by rw [rwAt_get (by rw [HROWS.out, List.length_map]; exact hyl)]; simp [HROWS.out]
        have hrb := mayL_row HM.out hpc
        rw [hye, HSL.out] at hrb
        generalize lv[x.1.pc] = y at *
        have hbn : ∀ m ∈ y.r.before, m.n < 4294967296 := fun m hm => by obtain ⟨_, _, _, ⟨_, _, _, _, _, ho⟩, _⟩ := hyo; exact (ho m hm).2.2
        have han : ∀ m ∈ y.r.after, m.n < 4294967296 := fun m hm => by obtain ⟨_, _, _, _, ⟨_, _, _, _, _, ho⟩⟩ := hyo; exact (ho m hm).2.2
        have hh := has_rw hrb hbn han (by omega) (by omega)
        have hr := rhas_rw hrb hbn han hnS2
        have hSS := hS.out.moves hh.bef
        have h5 := fun h => pair_lt hSS hrb hok h
        have hHHF : ∀ m ∈ y.r.before, RMvHas nS nL m ∧ MvHas m := fun m hm => ⟨hr.bef m hm, hh.bef m hm⟩
        have hHHT : ∀ m ∈ y.r.after, RMvHas nS nL m ∧ MvHas m := fun m hm => ⟨hr.aft m hm, hh.aft m hm⟩
        have hAM := hh.aft
        have hlbf := hh.lb
        have hlaf := hh.la
        have hda := hr.d
        have haa := hr.a
        have hba := hr.b
        have HStep := Lib.hid (hat.out.step hst hs)
        have hcB : (inAt p.code x.1.pc).op = 8 ∨ (inAt p.code x.1.pc).op = 9 → 0 ≤ (inAt p.code x.1.pc).c ∧ (inAt p.code x.1.pc).c ≤ 1000 := by
          intro h
          have := hok.c h
          omega
        have E2 : Hid ((mStep p.code (mPlaces p l.rows) x).2 = movesS (if gvs (inAt p.code x.1.pc).op then putS (movesS x.2 y.r.before) y.r.d (giveV (inAt p.code x.1.pc) (getS (movesS x.2 y.r.before) y.r.a) (getS (movesS x.2 y.r.before) y.r.b) (x.1.ins.headD 0)) else movesS x.2 y.r.before) y.r.after) := by
          rw [← hye]; rfl
        have ega : getS (movesS x.2 (rwAt l.rows x.1.pc).before) (rwAt l.rows x.1.pc).a = getS (movesS x.2 y.r.before) y.r.a := by rw [hye]
        have EI : Hid ((mStep p.code (mPlaces p l.rows) x).1.ins = if (inAt p.code x.1.pc).op = 3 then x.1.ins.tail else x.1.ins) := rfl
        have EO : Hid ((mStep p.code (mPlaces p l.rows) x).1.out = if (inAt p.code x.1.pc).op = 4 then x.1.out ++ [getS (movesS x.2 y.r.before) y.r.a % 4294967296] else x.1.out) := by rw [← ega]; rfl
        have ES : Hid ((mStep p.code (mPlaces p l.rows) x).1.state = stV p.code.length (inAt p.code x.1.pc) x.1.pc (getS (movesS x.2 y.r.before) y.r.a)) := by rw [← ega]; rfl
        have EP : Hid ((mStep p.code (mPlaces p l.rows) x).1.pc = pcV (inAt p.code x.1.pc) x.1.pc (getS (movesS x.2 y.r.before) y.r.a)) := by rw [← ega]; rfl
        have EN : Hid ((mStep p.code (mPlaces p l.rows) x).1.steps = x.1.steps + 1) := rfl
        have HN := Lib.hid (fun w2 (hf : Fr w w2) => refNext_any R _ p x.1.pc (getS (movesS x.2 y.r.before) y.r.a) w2 (H.out.kept hf (fun _ _ h => h)) hpc l4 hcB)
        have hk2 := hok.kn
        have houtl := hat.out.out rfl
        have hinr : ∀ y ∈ x.1.ins, 0 ≤ y ∧ y < 4294967296 := fun y hy => HI.out y (hat.out.ins y hy)
        obtain ⟨_, _, _, hbf, haf⟩ := hyo
        clear hI hok hx hcB hat hst hye ega hy hh hr hbn han hrb hmb hlen hyl hc0
        generalize mStep p.code (mPlaces p l.rows) x = x' at *
        obtain ⟨⟨pc, insx, out, steps, state⟩, s⟩ := x
        obtain ⟨⟨⟨dk, dn⟩, ⟨ak, an⟩, ⟨bk, bn⟩, bef, aft⟩, vb, va⟩ := y
        simp only at *
        obtain ⟨Ab, cb, rfl, _⟩ := id hbf
        obtain ⟨Aa, ca, rfl, _⟩ := id haf
        have hga := hSS.get ⟨ak, an⟩
        have hgb := hSS.get ⟨bk, bn⟩
        have HS1 := Lib.hid hSS
        generalize hs1 : movesS s bef = s1 at *
        have H1 := Lib.hid hs1
        clear hs1 hSS
        generalize hgaE : getS s1 ⟨ak, an⟩ = ga at *
        have HgaE := Lib.hid hgaE
        clear hgaE
        generalize hgbE : getS s1 ⟨bk, bn⟩ = gb at *
        have HgbE := Lib.hid hgbE
        clear hgbE
        generalize pcV (inAt p.code pc) pc ga = pc' at *
        generalize stV p.code.length (inAt p.code pc) pc ga = st' at *
        generalize inAt p.code pc = i at *
        obtain ⟨op, d, a, b1, cc, ni⟩ := i
        simp only at *
        have HHF := Lib.hid hHHF
        have HHT := Lib.hid hHHT
        have HAM := Lib.hid hAM
        have HHD := Lib.hid hda
        have HHA := Lib.hid haa
        have HHB := Lib.hid hba
        have HBF := Lib.hid hbf
        have HAF := Lib.hid haf
        have HH5 := Lib.hid h5
        have HINR := Lib.hid hinr
        have s2' := s2
        have zb := cell_lt d0
        have zb2 := cell_lt k0
        have hpc0 : (0 : Int) ≤ (pc : Int) := Int.natCast_nonneg _
        have hpc1 : (pc : Int) < (p.code.length : Int) := by omega
        have hpc2 : (pc : Int) < (lv.length : Int) := by omega
        have HG2 := Lib.hid (fun w => refGives_any op w)
        have HOLD : Hid (∀ b, b < w.heap.size → ¬ RS2 gS gL b) := fun b hb e => by
          have := HP.out.hS; have := HP.out.hL
          rcases e with e | e <;> omega
        clear hHHF hHHT hAM hda haa hba hbf haf h5 hinr HP0 hlv
        go_wp2_with fail
        have HI0 := Lib.hid ((Blk.new wr 45 #[.int .i64 op, .int .i64 d, .int .i64 a, .int .i64 b1, .int .i64 cc, .int .u32 ni]).alloc (.cells #[.int .i64 dk, .int .i64 dn, .int .i64 ak, .int .i64 an, .int .i64 bk, .int .i64 bn, .slice Ab bef.length cb, .slice Aa aft.length ca] 60))
        have HR0 : Hid (Blk ((wr.alloc (.cells #[.int .i64 op, .int .i64 d, .int .i64 a, .int .i64 b1, .int .i64 cc, .int .u32 ni] 45)).alloc (.cells #[.int .i64 dk, .int .i64 dn, .int .i64 ak, .int .i64 an, .int .i64 bk, .int .i64 bn, .slice Ab bef.length cb, .slice Aa aft.length ca] 60)) (wr.heap.size + 1) 60 #[.int .i64 dk, .int .i64 dn, .int .i64 ak, .int .i64 an, .int .i64 bk, .int .i64 bn, .slice Ab bef.length cb, .slice Aa aft.length ca]) := by
          have := Blk.new (wr.alloc (.cells #[.int .i64 op, .int .i64 d, .int .i64 a, .int .i64 b1, .int .i64 cc, .int .u32 ni] 45)) 60 #[.int .i64 dk, .int .i64 dn, .int .i64 ak, .int .i64 an, .int .i64 bk, .int .i64 bn, .slice Ab bef.length cb, .slice Aa aft.length ca]
          show Blk _ _ _ _
          simpa using this
        have HF0 : Hid (Fr wr ((wr.alloc (.cells #[.int .i64 op, .int .i64 d, .int .i64 a, .int .i64 b1, .int .i64 cc, .int .u32 ni] 45)).alloc (.cells #[.int .i64 dk, .int .i64 dn, .int .i64 ak, .int .i64 an, .int .i64 bk, .int .i64 bn, .slice Ab bef.length cb, .slice Aa aft.length ca] 60))) := ((Kept.refl _ wr).alloc _).alloc _
        have HPa := Lib.hid (HP.out.keep HF0.out)
        have HBF0 := Lib.hid (HBF.out.kept HF0.out (fun _ _ h => h))
        have HAF0 := Lib.hid (HAF.out.kept HF0.out (fun _ _ h => h))
        refine (rMoves_any (fun b => b < w.heap.size) gS gL nS nL s _ bef _ HPa.out.rs hS.out HBF0.out (fun b hb => ⟨fun e => HOLD.out b hb (Or.inl e), fun e => HOLD.out b hb (Or.inr e)⟩) (by omega) HHF.out hnS1 hnL1).mono ?_
        rintro e w1 ⟨rfl, hz, kz⟩
        rw [H1.out] at hz
        have HP1 := Lib.hid (HPa.out.put kz hz)
        have HI1 := Lib.hid (HI0.out.kept kz (HPa.out.blk HI0.out (by decide) (by decide)))
        have HR1 := Lib.hid (HR0.out.kept kz (HPa.out.blk HR0.out (by decide) (by decide)))
        have HA1 := Lib.hid (HAF0.out.kept kz HOLD.out)
        clear hz kz bp0 bp1 bl1 s0 s1' s2 zp zl zx t0 t1 zT d0 d1 d2 d3 d4 d5 k0 k1 k2 k3 k4 k5 k6 k7 zb zb2 HBF0 HAF0 HBF HAF HI0 HR0
        have r2 := HR1.out.cell 2
        have r3 := HR1.out.cell 3
        have t0 := HP1.out.bT.cell 0
        have t1 := HP1.out.bT.cell 1
        simp only [List.getElem?_toArray, List.getElem?_cons_succ, List.getElem?_cons_zero] at r2 r3 t0 t1
        have zr := HR1.out.lt
        have zT := HP1.out.bT.lt
        go_wp2_with fail
        have hGA := rGet_any gS gL nS nL s1 ⟨ak, an⟩ w1 HP1.out.rs HS1.out HHA.out hnS1 hnL1
        rw [HgaE.out] at hGA
        refine hGA.mono ?_
        rintro e w2 ⟨rfl, f2⟩
        have HP2 := Lib.hid (HP1.out.keep f2)
        have HI2 := Lib.hid (HI1.out.kept f2 (fun h => h))
        have HR2 := Lib.hid (HR1.out.kept f2 (fun h => h))
        have HA2 := Lib.hid (HA1.out.kept f2 (fun _ _ h => h))
        clear hGA f2 r2 r3 t0 t1 zr zT
        have r4 := HR2.out.cell 4
        have r5 := HR2.out.cell 5
        have t0 := HP2.out.bT.cell 0
        have t1 := HP2.out.bT.cell 1
        simp only [List.getElem?_toArray, List.getElem?_cons_succ, List.getElem?_cons_zero] at r4 r5 t0 t1
        have zr := HR2.out.lt
        have zT := HP2.out.bT.lt
        go_wp2_with fail
        have hGB := rGet_any gS gL nS nL s1 ⟨bk, bn⟩ w2 HP2.out.rs HS1.out HHB.out hnS1 hnL1
        rw [HgbE.out] at hGB
        refine hGB.mono ?_
        rintro e w3 ⟨rfl, f3⟩
        have HP5' := Lib.hid (HP2.out.keep f3)
        have HI5 := Lib.hid (HI2.out.kept f3 (fun h => h))
        have HR5 := Lib.hid (HR2.out.kept f3 (fun h => h))
        have HA5 := Lib.hid (HA2.out.kept f3 (fun _ _ h => h))
        clear hGB f3 r4 r5 t0 t1 zr zT HP1 HP2 HI1 HI2 HR1 HR2 HA1 HA2 HPa HHA HHB HgaE HgbE HF0 H1
        generalize hne : wr.heap.size = nI at *
        clear hne
        by_cases o3 : op = 3
        · subst o3
          have hg3 : gvs 3 = true := rfl
          rw [hg3] at HG2 E2
          rw [if_pos rfl] at E2 EI
          rw [if_neg (by decide)] at EO
          have e0 := HI5.out.cell 0
          have zi := HI5.out.lt
          simp only [List.getElem?_toArray, List.getElem?_cons_succ, List.getElem?_cons_zero] at e0
          by_cases hkl : k < ins.length
          · have hx : ins[k]? = some ins[k] := List.getElem?_eq_getElem hkl
            obtain ⟨b7, o7, rfl, _, hc7⟩ := (HINS.out.kept HP5'.out.fr (fun _ _ h => h)).2 (by omega)
            have c7 := hc7 k (.int .u32 ins[k]) (by unfold u32s; rw [List.getElem?_map, hx]; rfl)
            have z7 := cell_lt c7
            have hdr := hin.out
            rw [List.drop_eq_getElem_cons hkl] at hdr
            have hxr := HI.out ins[k] (List.getElem_mem hkl)
            have EI2 : Hid (insx.tail = ins.drop (k + 1)) := by show _ = _; rw [hdr]; rfl
            rw [show insx.headD 0 = ins[k] by rw [hdr]; rfl] at E2
            have hkl' : (k : Int) < (ins.length : Int) := by omega
            have hk0 : (0 : Int) ≤ (k : Int) := Int.natCast_nonneg _
            clear hc7 hx hdr
            generalize ins[k] = xi at *
            have HGR := Lib.hid (giveV_num (i := ⟨3, d, a, b1, cc, ni⟩) hk2 hg3 hga hgb HH5.out hn32 hxr)
            have HGv := Lib.hid (fun w => refGives3_any ⟨3, d, a, b1, cc, ni⟩ ga gb xi w hk2 hg3 hga hgb HH5.out hn32 hxr)
            unfold In.val at HGv
            simp only at HGv
            generalize giveV ⟨3, d, a, b1, cc, ni⟩ ga gb xi = gv at *
            have HSy := Lib.hid (HS1.out.put ⟨dk, dn⟩ HGR.out)
            have HSz := Lib.hid (HSy.out.moves HAM.out)
            obtain ⟨x0r, x1r⟩ := hxr
            go_wp2_with fail
            have HIx := HI5
            have HRx := HR5
            have HPx := HP5'
            have HAx := HA5
            have e0 := HIx.out.cell 0
            simp only [List.getElem?_toArray, List.getElem?_cons_succ, List.getElem?_cons_zero] at e0
            have zi := HIx.out.lt
            go_wp2_with fail
            refine (HG2.out _).mono ?_
            rintro e wg ⟨rfl, rfl⟩
            have e1 := HIx.out.cell 1
            have e2 := HIx.out.cell 2
            have e3 := HIx.out.cell 3
            have e4 := HIx.out.cell 4
            have e5 := HIx.out.cell 5
            simp only [List.getElem?_toArray, List.getElem?_cons_succ, List.getElem?_cons_zero] at e1 e2 e3 e4 e5
            go_wp2_with fail
            refine (HGv.out _).mono ?_
            rintro e wv ⟨rfl, fv⟩
            have HPv := Lib.hid (HPx.out.keep fv)
            have HRv := Lib.hid (HRx.out.kept fv (fun h => h))
            have HAv := Lib.hid (HAx.out.kept fv (fun _ _ h => h))
            clear fv e0 e1 e2 e3 e4 e5 zi
            have r0 := HRv.out.cell 0
            have r1 := HRv.out.cell 1
            have t0 := HPv.out.bT.cell 0
            have t1 := HPv.out.bT.cell 1
            simp only [List.getElem?_toArray, List.getElem?_cons_succ, List.getElem?_cons_zero] at r0 r1 t0 t1
            have zr := HRv.out.lt
            have zT := HPv.out.bT.lt
            go_wp2_with fail
            refine (rPut_any gS gL nS nL s1 ⟨dk, dn⟩ gv _ HPv.out.rs HHD.out HGR.out hnS1 hnL1).mono ?_
            rintro e wy ⟨rfl, hy, ky⟩
            have HPy := Lib.hid (HPv.out.put ky hy)
            have HRy := Lib.hid (HRv.out.kept ky (HPv.out.blk HRv.out (by decide) (by decide)))
            have HAy := Lib.hid (HAv.out.kept ky HOLD.out)
            clear hy ky r0 r1 t0 t1 zr zT
            have r7 := HRy.out.cell 7
            have t0 := HPy.out.bT.cell 0
            have t1 := HPy.out.bT.cell 1
            simp only [List.getElem?_toArray, List.getElem?_cons_succ, List.getElem?_cons_zero] at r7 t0 t1
            have zr := HRy.out.lt
            have zT := HPy.out.bT.lt
            go_wp2_with fail
            refine (rMoves_any (fun b => b < w.heap.size) gS gL nS nL (putS s1 ⟨dk, dn⟩ gv) _ aft _ HPy.out.rs HSy.out HAy.out (fun b hb => ⟨fun e => HOLD.out b hb (Or.inl e), fun e => HOLD.out b hb (Or.inr e)⟩) (by omega) HHT.out hnS1 hnL1).mono ?_
            rintro e wz ⟨rfl, hz, kz⟩
            have HPz := Lib.hid (HPy.out.put kz hz)
            clear hz kz r7 t0 t1 zr zT
            have p0 := HPz.out.bp.cell 0
            have p1 := HPz.out.bp.cell 1
            simp only [List.getElem?_toArray, List.getElem?_cons_succ, List.getElem?_cons_zero] at p0 p1
            have zp := HPz.out.bp.lt
            go_wp2_with fail
            refine (HN.out _ HPz.out.fr).mono ?_
            rintro e wn ⟨rfl, fn⟩
            have HPn := Lib.hid (HPz.out.keep fn)
            clear fn p0 p1 zp
            have x0 := HPn.out.bx.cell 0
            have x2 := HPn.out.bx.cell 2
            have y0 := HPn.out.bx.frozen 0
            have y2 := HPn.out.bx.frozen 2
            have zx := HPn.out.bx.lt
            simp only [List.getElem?_toArray, List.getElem?_cons_succ, List.getElem?_cons_zero] at x0 x2
            go_wp2
            have HP5 := Lib.hid (HPn.out.fin st' (steps + 1))
            go_roundw
            case rel =>
              refine ⟨x', k + 1, vo, by rw [EP.out], by go_num, by omega, ?_, HStep, ?_, ?_⟩
              · show _ = _
                rw [EI.out]
                exact EI2.out
              · show StOk _
                rw [E2.out]
                exact HSz.out
              · show P7 _ _ _ _ _ _ _ _ _ _ _ _ _ _
                rw [E2.out, EO.out, ES.out, EN.out]
                exact HP5.out
            case measure =>
              have m2 := HP5.out.bx.cell 2
              simp only [List.getElem?_toArray, List.getElem?_cons_succ, List.getElem?_cons_zero] at m2
              rw [show ((steps + 1 : Nat) : Int) = (steps : Int) + 1 from rfl] at m2
              rw [m2, s2']
              simp [intOf]
              omega
          · have hkl' : ¬ (k : Int) < (ins.length : Int) := by omega
            have hdr := hin.out
            rw [List.drop_eq_nil_of_le (by omega)] at hdr
            have EI2 : Hid (insx.tail = ins.drop k) := by show _ = _; rw [hdr, List.drop_eq_nil_of_le (by omega)]; rfl
            rw [show insx.headD 0 = 0 by rw [hdr]; rfl] at E2
            have hxr : (0 : Int) ≤ 0 ∧ (0 : Int) < 4294967296 := by decide
            have HGR := Lib.hid (giveV_num (i := ⟨3, d, a, b1, cc, ni⟩) hk2 hg3 hga hgb HH5.out hn32 hxr)
            have HGv := Lib.hid (fun w => refGives3_any ⟨3, d, a, b1, cc, ni⟩ ga gb 0 w hk2 hg3 hga hgb HH5.out hn32 hxr)
            unfold In.val at HGv
            simp only at HGv
            generalize giveV ⟨3, d, a, b1, cc, ni⟩ ga gb 0 = gv at *
            have HSy := Lib.hid (HS1.out.put ⟨dk, dn⟩ HGR.out)
            have HSz := Lib.hid (HSy.out.moves HAM.out)
            go_wp2_with fail
            have HIx := HI5
            have HRx := HR5
            have HPx := HP5'
            have HAx := HA5
            have e0 := HIx.out.cell 0
            simp only [List.getElem?_toArray, List.getElem?_cons_succ, List.getElem?_cons_zero] at e0
            have zi := HIx.out.lt
            go_wp2_with fail
            refine (HG2.out _).mono ?_
            rintro e wg ⟨rfl, rfl⟩
            have e1 := HIx.out.cell 1
            have e2 := HIx.out.cell 2
            have e3 := HIx.out.cell 3
            have e4 := HIx.out.cell 4
            have e5 := HIx.out.cell 5
            simp only [List.getElem?_toArray, List.getElem?_cons_succ, List.getElem?_cons_zero] at e1 e2 e3 e4 e5
            go_wp2_with fail
            refine (HGv.out _).mono ?_
            rintro e wv ⟨rfl, fv⟩
            have HPv := Lib.hid (HPx.out.keep fv)
            have HRv := Lib.hid (HRx.out.kept fv (fun h => h))
            have HAv := Lib.hid (HAx.out.kept fv (fun _ _ h => h))
            clear fv e0 e1 e2 e3 e4 e5 zi
            have r0 := HRv.out.cell 0
            have r1 := HRv.out.cell 1
            have t0 := HPv.out.bT.cell 0
            have t1 := HPv.out.bT.cell 1
            simp only [List.getElem?_toArray, List.getElem?_cons_succ, List.getElem?_cons_zero] at r0 r1 t0 t1
            have zr := HRv.out.lt
            have zT := HPv.out.bT.lt
            go_wp2_with fail
            refine (rPut_any gS gL nS nL s1 ⟨dk, dn⟩ gv _ HPv.out.rs HHD.out HGR.out hnS1 hnL1).mono ?_
            rintro e wy ⟨rfl, hy, ky⟩
            have HPy := Lib.hid (HPv.out.put ky hy)
            have HRy := Lib.hid (HRv.out.kept ky (HPv.out.blk HRv.out (by decide) (by decide)))
            have HAy := Lib.hid (HAv.out.kept ky HOLD.out)
            clear hy ky r0 r1 t0 t1 zr zT
            have r7 := HRy.out.cell 7
            have t0 := HPy.out.bT.cell 0
            have t1 := HPy.out.bT.cell 1
            simp only [List.getElem?_toArray, List.getElem?_cons_succ, List.getElem?_cons_zero] at r7 t0 t1
            have zr := HRy.out.lt
            have zT := HPy.out.bT.lt
            go_wp2_with fail
            refine (rMoves_any (fun b => b < w.heap.size) gS gL nS nL (putS s1 ⟨dk, dn⟩ gv) _ aft _ HPy.out.rs HSy.out HAy.out (fun b hb => ⟨fun e => HOLD.out b hb (Or.inl e), fun e => HOLD.out b hb (Or.inr e)⟩) (by omega) HHT.out hnS1 hnL1).mono ?_
            rintro e wz ⟨rfl, hz, kz⟩
            have HPz := Lib.hid (HPy.out.put kz hz)
            clear hz kz r7 t0 t1 zr zT
            have p0 := HPz.out.bp.cell 0
            have p1 := HPz.out.bp.cell 1
            simp only [List.getElem?_toArray, List.getElem?_cons_succ, List.getElem?_cons_zero] at p0 p1
            have zp := HPz.out.bp.lt
            go_wp2_with fail
            refine (HN.out _ HPz.out.fr).mono ?_
            rintro e wn ⟨rfl, fn⟩
            have HPn := Lib.hid (HPz.out.keep fn)
            clear fn p0 p1 zp
            have x0 := HPn.out.bx.cell 0
            have x2 := HPn.out.bx.cell 2
            have y0 := HPn.out.bx.frozen 0
            have y2 := HPn.out.bx.frozen 2
            have zx := HPn.out.bx.lt
            simp only [List.getElem?_toArray, List.getElem?_cons_succ, List.getElem?_cons_zero] at x0 x2
            go_wp2
            have HP5 := Lib.hid (HPn.out.fin st' (steps + 1))
            go_roundw
            case rel =>
              refine ⟨x', k, vo, by rw [EP.out], by go_num, by omega, ?_, HStep, ?_, ?_⟩
              · show _ = _
                rw [EI.out]
                exact EI2.out
              · show StOk _
                rw [E2.out]
                exact HSz.out
              · show P7 _ _ _ _ _ _ _ _ _ _ _ _ _ _
                rw [E2.out, EO.out, ES.out, EN.out]
                exact HP5.out
            case measure =>
              have m2 := HP5.out.bx.cell 2
              simp only [List.getElem?_toArray, List.getElem?_cons_succ, List.getElem?_cons_zero] at m2
              rw [show ((steps + 1 : Nat) : Int) = (steps : Int) + 1 from rfl] at m2
              rw [m2, s2']
              simp [intOf]
              omega
        · have o3' : (op == 3) = false := by simpa using o3
          by_cases o4 : op = 4
          · subst o4
            rw [show gvs 4 = false from rfl] at HG2 E2
            rw [if_neg (by decide)] at E2 EI
            rw [if_pos rfl] at EO
            have e0 := HI5.out.cell 0
            have zi := HI5.out.lt
            have q1 := HP5'.out.bx.cell 1
            have zx := HP5'.out.bx.lt
            simp only [List.getElem?_toArray, List.getElem?_cons_succ, List.getElem?_cons_zero] at e0 q1
            have hsw := HP5'.out.fr.size
            have hgS := HP5'.out.rs.sb.lt
            go_wp2_with (at_builtin
                         refine wpList_app (base := w.heap.size) _ rfl slU32 (.tmp 79) (.tmp 82) rfl vo _ _ rfl (World.ownsRow.alloc HP5'.out.ow _) (fun _ => True) _ 1 1 _ rfl (Reads.lit' (by simp) trivial rfl) ?_ ?_ ?_ ?_ ?_
                         · simp [Value.oneCell']
                         · omega
                         · unfold maxLen; omega
                         · simp; omega
                         intro v9 w9 hown9 hk9 hat9
                         obtain ⟨A9, c9, rfl, _, _⟩ := own_reads hown9
                         have HP9 := HP5'.out.keep ((Kept.refl (fun _ => False) _).alloc (.cells #[.int .u32 (ga % 4294967296)] 36))
                         have hb9 := HP9.bx.kept hk9 (own_blk_ne HP9.ow HP9.bx (by decide))
                         have p1 := hb9.cell 1
                         have x1 := hb9.frozen 1
                         simp only [List.getElem?_toArray, List.getElem?_cons_succ, List.getElem?_cons_zero] at p1
                         have z9 := hb9.lt
                         have hi9 := (HI5.out.alloc (.cells #[.int .u32 (ga % 4294967296)] 36)).kept hk9 (own_blk_ne HP5'.out.ow HI5.out (by decide))
                         have hr9 := (HR5.out.alloc (.cells #[.int .u32 (ga % 4294967296)] 36)).kept hk9 (own_blk_ne HP5'.out.ow HR5.out (by decide))
                         have ha9 := (HA5.out.kept ((Kept.refl (fun _ => False) _).alloc (.cells #[.int .u32 (ga % 4294967296)] 36)) (fun _ _ h => h)).kept hk9 (fun b hb e => by have := (own_lt HP5'.out.ow e).1; omega)
                         have i0 := hi9.cell 0
                         simp only [List.getElem?_toArray, List.getElem?_cons_succ, List.getElem?_cons_zero] at i0
                         have zi9 := hi9.lt)
            have hK9 : Kept (fun k => k = w.heap.size + 4) w9 (w9.setCell ⟨w.heap.size + 4, 1, none⟩ (.slice A9 (out.length + 1) c9)) := (Kept.refl (fun k => k = w.heap.size + 4) w9).setCell (p := ⟨w.heap.size + 4, 1, none⟩) (fun _ => rfl) _
            have HPx := Lib.hid (HP9.app hk9 hown9 hat9 HP9.rs.sb.lt)
            have HIx := Lib.hid (hi9.kept hK9 (hi9.ne_ hb9 (by decide)))
            have HRx := Lib.hid (hr9.kept hK9 (hr9.ne_ hb9 (by decide)))
            have HAx := Lib.hid (ha9.kept hK9 (fun b hb e => by omega))
            clear hk9 hown9 hat9 hK9 HP9 hb9 hi9 hr9 ha9 p1 x1 i0 q1
            have HSy := HS1
            have HSz := Lib.hid (HSy.out.moves HAM.out)
            have e0 := HIx.out.cell 0
            simp only [List.getElem?_toArray, List.getElem?_cons_succ, List.getElem?_cons_zero] at e0
            have zi := HIx.out.lt
            go_wp2_with fail
            refine (HG2.out _).mono ?_
            rintro e wg ⟨rfl, rfl⟩
            have HPy := HPx
            have HRy := HRx
            have HAy := HAx
            clear e0 zi
            have r7 := HRy.out.cell 7
            have t0 := HPy.out.bT.cell 0
            have t1 := HPy.out.bT.cell 1
            simp only [List.getElem?_toArray, List.getElem?_cons_succ, List.getElem?_cons_zero] at r7 t0 t1
            have zr := HRy.out.lt
            have zT := HPy.out.bT.lt
            go_wp2_with fail
            refine (rMoves_any (fun b => b < w.heap.size) gS gL nS nL s1 _ aft _ HPy.out.rs HSy.out HAy.out (fun b hb => ⟨fun e => HOLD.out b hb (Or.inl e), fun e => HOLD.out b hb (Or.inr e)⟩) (by omega) HHT.out hnS1 hnL1).mono ?_
            rintro e wz ⟨rfl, hz, kz⟩
            have HPz := Lib.hid (HPy.out.put kz hz)
            clear hz kz r7 t0 t1 zr zT
            have p0 := HPz.out.bp.cell 0
            have p1 := HPz.out.bp.cell 1
            simp only [List.getElem?_toArray, List.getElem?_cons_succ, List.getElem?_cons_zero] at p0 p1
            have zp := HPz.out.bp.lt
            go_wp2_with fail
            refine (HN.out _ HPz.out.fr).mono ?_
            rintro e wn ⟨rfl, fn⟩
            have HPn := Lib.hid (HPz.out.keep fn)
            clear fn p0 p1 zp
            have x0 := HPn.out.bx.cell 0
            have x2 := HPn.out.bx.cell 2
            have y0 := HPn.out.bx.frozen 0
            have y2 := HPn.out.bx.frozen 2
            have zx := HPn.out.bx.lt
            simp only [List.getElem?_toArray, List.getElem?_cons_succ, List.getElem?_cons_zero] at x0 x2
            go_wp2
            have HP5 := Lib.hid (HPn.out.fin st' (steps + 1))
            go_roundw
            case rel =>
              refine ⟨x', k, (.slice A9 (out.length + 1) c9), by rw [EP.out], by go_num, by omega, ?_, HStep, ?_, ?_⟩
              · show _ = _
                rw [EI.out]
                exact hin.out
              · show StOk _
                rw [E2.out]
                exact HSz.out
              · show P7 _ _ _ _ _ _ _ _ _ _ _ _ _ _
                rw [E2.out, EO.out, ES.out, EN.out]
                exact HP5.out
            case measure =>
              have m2 := HP5.out.bx.cell 2
              simp only [List.getElem?_toArray, List.getElem?_cons_succ, List.getElem?_cons_zero] at m2
              rw [show ((steps + 1 : Nat) : Int) = (steps : Int) + 1 from rfl] at m2
              rw [m2, s2']
              simp [intOf]
              omega
          · have o4' : (op == 4) = false := by simpa using o4
            have HGI := Lib.hid (giveV_in (i := ⟨op, d, a, b1, cc, ni⟩) (a := ga) (b := gb) (x := insx.headD 0) (y := 0) o3)
            have e0 := HI5.out.cell 0
            have zi := HI5.out.lt
            simp only [List.getElem?_toArray, List.getElem?_cons_succ, List.getElem?_cons_zero] at e0
            cases hg : gvs op with
            | false =>
              rw [hg] at HG2 E2
              rw [if_neg (by decide)] at E2
              rw [if_neg o3] at EI
              rw [if_neg o4] at EO
              clear hg HGI o3 o4
              have HSy := HS1
              have HSz := Lib.hid (HSy.out.moves HAM.out)
              go_wp2_with fail
              have HIx := HI5
              have HRx := HR5
              have HPx := HP5'
              have HAx := HA5
              have e0 := HIx.out.cell 0
              simp only [List.getElem?_toArray, List.getElem?_cons_succ, List.getElem?_cons_zero] at e0
              have zi := HIx.out.lt
              go_wp2_with fail
              refine (HG2.out _).mono ?_
              rintro e wg ⟨rfl, rfl⟩
              have HPy := HPx
              have HRy := HRx
              have HAy := HAx
              clear e0 zi
              have r7 := HRy.out.cell 7
              have t0 := HPy.out.bT.cell 0
              have t1 := HPy.out.bT.cell 1
              simp only [List.getElem?_toArray, List.getElem?_cons_succ, List.getElem?_cons_zero] at r7 t0 t1
              have zr := HRy.out.lt
              have zT := HPy.out.bT.lt
              go_wp2_with fail
              refine (rMoves_any (fun b => b < w.heap.size) gS gL nS nL s1 _ aft _ HPy.out.rs HSy.out HAy.out (fun b hb => ⟨fun e => HOLD.out b hb (Or.inl e), fun e => HOLD.out b hb (Or.inr e)⟩) (by omega) HHT.out hnS1 hnL1).mono ?_
              rintro e wz ⟨rfl, hz, kz⟩
              have HPz := Lib.hid (HPy.out.put kz hz)
              clear hz kz r7 t0 t1 zr zT
              have p0 := HPz.out.bp.cell 0
              have p1 := HPz.out.bp.cell 1
              simp only [List.getElem?_toArray, List.getElem?_cons_succ, List.getElem?_cons_zero] at p0 p1
              have zp := HPz.out.bp.lt
              go_wp2_with fail
              refine (HN.out _ HPz.out.fr).mono ?_
              rintro e wn ⟨rfl, fn⟩
              have HPn := Lib.hid (HPz.out.keep fn)
              clear fn p0 p1 zp
              have x0 := HPn.out.bx.cell 0
              have x2 := HPn.out.bx.cell 2
              have y0 := HPn.out.bx.frozen 0
              have y2 := HPn.out.bx.frozen 2
              have zx := HPn.out.bx.lt
              simp only [List.getElem?_toArray, List.getElem?_cons_succ, List.getElem?_cons_zero] at x0 x2
              go_wp2
              have HP5 := Lib.hid (HPn.out.fin st' (steps + 1))
              go_roundw
              case rel =>
                refine ⟨x', k, vo, by rw [EP.out], by go_num, by omega, ?_, HStep, ?_, ?_⟩
                · show _ = _
                  rw [EI.out]
                  exact hin.out
                · show StOk _
                  rw [E2.out]
                  exact HSz.out
                · show P7 _ _ _ _ _ _ _ _ _ _ _ _ _ _
                  rw [E2.out, EO.out, ES.out, EN.out]
                  exact HP5.out
              case measure =>
                have m2 := HP5.out.bx.cell 2
                simp only [List.getElem?_toArray, List.getElem?_cons_succ, List.getElem?_cons_zero] at m2
                rw [show ((steps + 1 : Nat) : Int) = (steps : Int) + 1 from rfl] at m2
                rw [m2, s2']
                simp [intOf]
                omega
            | true =>
              have hxr : (0 : Int) ≤ 0 ∧ (0 : Int) < 4294967296 := by decide
              rw [hg] at HG2 E2
              rw [if_pos rfl, HGI.out] at E2
              rw [if_neg o3] at EI
              rw [if_neg o4] at EO
              clear HGI o3 o4
              have HGR := Lib.hid (giveV_num (i := ⟨op, d, a, b1, cc, ni⟩) hk2 hg hga hgb HH5.out hn32 hxr)
              have HGv := Lib.hid (fun w => refGives3_any ⟨op, d, a, b1, cc, ni⟩ ga gb 0 w hk2 hg hga hgb HH5.out hn32 hxr)
              unfold In.val at HGv
              simp only at HGv
              generalize giveV ⟨op, d, a, b1, cc, ni⟩ ga gb 0 = gv at *
              have HSy := Lib.hid (HS1.out.put ⟨dk, dn⟩ HGR.out)
              have HSz := Lib.hid (HSy.out.moves HAM.out)
              clear hg
              go_wp2_with fail
              have HIx := HI5
              have HRx := HR5
              have HPx := HP5'
              have HAx := HA5
              have e0 := HIx.out.cell 0
              simp only [List.getElem?_toArray, List.getElem?_cons_succ, List.getElem?_cons_zero] at e0
              have zi := HIx.out.lt
              go_wp2_with fail
              refine (HG2.out _).mono ?_
              rintro e wg ⟨rfl, rfl⟩
              have e1 := HIx.out.cell 1
              have e2 := HIx.out.cell 2
              have e3 := HIx.out.cell 3
              have e4 := HIx.out.cell 4
              have e5 := HIx.out.cell 5
              simp only [List.getElem?_toArray, List.getElem?_cons_succ, List.getElem?_cons_zero] at e1 e2 e3 e4 e5
              go_wp2_with fail
              refine (HGv.out _).mono ?_
              rintro e wv ⟨rfl, fv⟩
              have HPv := Lib.hid (HPx.out.keep fv)
              have HRv := Lib.hid (HRx.out.kept fv (fun h => h))
              have HAv := Lib.hid (HAx.out.kept fv (fun _ _ h => h))
              clear fv e0 e1 e2 e3 e4 e5 zi
              have r0 := HRv.out.cell 0
              have r1 := HRv.out.cell 1
              have t0 := HPv.out.bT.cell 0
              have t1 := HPv.out.bT.cell 1
              simp only [List.getElem?_toArray, List.getElem?_cons_succ, List.getElem?_cons_zero] at r0 r1 t0 t1
              have zr := HRv.out.lt
              have zT := HPv.out.bT.lt
              go_wp2_with fail
              refine (rPut_any gS gL nS nL s1 ⟨dk, dn⟩ gv _ HPv.out.rs HHD.out HGR.out hnS1 hnL1).mono ?_
              rintro e wy ⟨rfl, hy, ky⟩
              have HPy := Lib.hid (HPv.out.put ky hy)
              have HRy := Lib.hid (HRv.out.kept ky (HPv.out.blk HRv.out (by decide) (by decide)))
              have HAy := Lib.hid (HAv.out.kept ky HOLD.out)
              clear hy ky r0 r1 t0 t1 zr zT
              have r7 := HRy.out.cell 7
              have t0 := HPy.out.bT.cell 0
              have t1 := HPy.out.bT.cell 1
              simp only [List.getElem?_toArray, List.getElem?_cons_succ, List.getElem?_cons_zero] at r7 t0 t1
              have zr := HRy.out.lt
              have zT := HPy.out.bT.lt
              go_wp2_with fail
              refine (rMoves_any (fun b => b < w.heap.size) gS gL nS nL (putS s1 ⟨dk, dn⟩ gv) _ aft _ HPy.out.rs HSy.out HAy.out (fun b hb => ⟨fun e => HOLD.out b hb (Or.inl e), fun e => HOLD.out b hb (Or.inr e)⟩) (by omega) HHT.out hnS1 hnL1).mono ?_
              rintro e wz ⟨rfl, hz, kz⟩
              have HPz := Lib.hid (HPy.out.put kz hz)
              clear hz kz r7 t0 t1 zr zT
              have p0 := HPz.out.bp.cell 0
              have p1 := HPz.out.bp.cell 1
              simp only [List.getElem?_toArray, List.getElem?_cons_succ, List.getElem?_cons_zero] at p0 p1
              have zp := HPz.out.bp.lt
              go_wp2_with fail
              refine (HN.out _ HPz.out.fr).mono ?_
              rintro e wn ⟨rfl, fn⟩
              have HPn := Lib.hid (HPz.out.keep fn)
              clear fn p0 p1 zp
              have x0 := HPn.out.bx.cell 0
              have x2 := HPn.out.bx.cell 2
              have y0 := HPn.out.bx.frozen 0
              have y2 := HPn.out.bx.frozen 2
              have zx := HPn.out.bx.lt
              simp only [List.getElem?_toArray, List.getElem?_cons_succ, List.getElem?_cons_zero] at x0 x2
              go_wp2
              have HP5 := Lib.hid (HPn.out.fin st' (steps + 1))
              go_roundw
              case rel =>
                refine ⟨x', k, vo, by rw [EP.out], by go_num, by omega, ?_, HStep, ?_, ?_⟩
                · show _ = _
                  rw [EI.out]
                  exact hin.out
                · show StOk _
                  rw [E2.out]
                  exact HSz.out
                · show P7 _ _ _ _ _ _ _ _ _ _ _ _ _ _
                  rw [E2.out, EO.out, ES.out, EN.out]
                  exact HP5.out
              case measure =>
                have m2 := HP5.out.bx.cell 2
                simp only [List.getElem?_toArray, List.getElem?_cons_succ, List.getElem?_cons_zero] at m2
                rw [show ((steps + 1 : Nat) : Int) = (steps : Int) + 1 from rfl] at m2
                rw [m2, s2']
                simp [intOf]
                omega
      · have HE := Lib.hid (hat.out.stop (by
          by_cases h : x.1.steps < n
          · exact Or.inl fun h2 => hgo ⟨h2, h⟩
          · exact Or.inr h))
        have houtl := hat.out.out rfl
        have r0 := HP.out.br.cell 0
        have r1 := HP.out.br.cell 1
        have r2 := HP.out.br.cell 2
        have yr0 := HP.out.br.frozen 0
        have yr1 := HP.out.br.frozen 1
        have yr2 := HP.out.br.frozen 2
        have zr := HP.out.br.lt
        simp only [List.getElem?_toArray, List.getElem?_cons_succ, List.getElem?_cons_zero] at r0 r1 r2
        obtain ⟨A9, c9, rfl, _, hr9⟩ := own_reads HP.out.ow
        have HR9 := Lib.hid hr9
        have HE2 : Hid (doneV p l.rows ins n = x.1) := by
          show _ = _
          have := HE.out
          unfold doneV
          rw [← this]
        have hsn : ((x.1.steps : Nat) : Int) < (n : Int) ∨ ¬ ((x.1.steps : Nat) : Int) < (n : Int) := Decidable.em _
        have hK : ∀ (W1 : World) (a b c : Value), Kept (fun b => b = w.heap.size + 3) W1 (((W1.setCell ⟨w.heap.size + 3, 0, none⟩ a).setCell ⟨w.heap.size + 3, 1, none⟩ b).setCell ⟨w.heap.size + 3, 2, none⟩ c) := fun W1 a b c =>
          (((Kept.refl (fun b => b = w.heap.size + 3) W1).setCell (p := ⟨w.heap.size + 3, 0, none⟩) (fun _ => rfl) _).setCell (p := ⟨w.heap.size + 3, 1, none⟩) (fun _ => rfl) _).setCell (p := ⟨w.heap.size + 3, 2, none⟩) (fun _ => rfl) _
        have HK := Lib.hid hK
        clear hr9 HE hin hat hS hK HP0 bp0 bp1 bl1 t0 t1
        rcases hsn with hsn | hsn
        · have hz : ((x.1.state : Int) == 0) = false := by
            rw [beq_eq_false_iff_ne]
            intro h0
            exact hgo ⟨by omega, by omega⟩
          clear hgo
          go_wp2
          refine bodyPost_ret (v := .agg #[.int .i64 (x.1.state : Int), .slice A9 x.1.out.length c9, .int .i64 (x.1.steps : Int)]) ?_ rfl ?_
          · simp [results, Try.results26, go_sem, r0, r1, r2]
          · exact ⟨_, rfl, by rw [HE2.out]; exact ⟨A9, c9, rfl, by omega, (HR9.out.kept (HK.out _ _ _ _) (fun b hb e => own_blk_ne HP.out.ow HP.out.br (by decide) (e ▸ hb.2))).more (fun b hb => hb.1)⟩, HP.out.fr.then (HK.out _ _ _ _) (fun i hi e => by omega)⟩
        · clear hgo
          go_wp2
          refine bodyPost_ret (v := .agg #[.int .i64 (x.1.state : Int), .slice A9 x.1.out.length c9, .int .i64 (x.1.steps : Int)]) ?_ rfl ?_
          · simp [results, Try.results26, go_sem, r0, r1, r2]
          · exact ⟨_, rfl, by rw [HE2.out]; exact ⟨A9, c9, rfl, by omega, (HR9.out.kept (HK.out _ _ _ _) (fun b hb e => own_blk_ne HP.out.ow HP.out.br (by decide) (e ▸ hb.2))).more (fun b hb => hb.1)⟩, HP.out.fr.then (HK.out _ _ _ _) (fun i hi e => by omega)⟩
end Go.Proofs.Ytodmkjeankbieab

/- A row of ints is sorted by a function that only reads: every cell still holds one of what they held. -/
namespace Go.Proofs.Ytodmkjeankbieab
open Go.RowKit Go.Sort Go.Shelf

/-- the numbers of the sort's types and functions -/
def sortRen : Ren := ⟨fun n => if n = 20 then 124 else n, fun n => if n = 0 then 0 else if n = 3 then 3 else if n = 4 then 4 else if n = 22 then 99 else if n = 24 then 3 else if n = 25 then 129 else n, fun n => n⟩

theorem sortLays : SlLaysF.n20 Try.prog sortRen where
  mixed := by kernel_rfl
  f20 := ⟨Try.f124.name, by decide, by kernel_rfl⟩
  t0 := Try.underlying0
  a0 := Try.isAgg0
  z0 := Try.sizeOf0
  v0 := Try.zeroValue0
  t3 := Try.underlying3
  a3 := Try.isAgg3
  z3 := Try.sizeOf3
  v3 := Try.zeroValue3
  t4 := Try.underlying4
  a4 := Try.isAgg4
  z4 := Try.sizeOf4
  v4 := Try.zeroValue4
  t22 := Try.underlying99
  a22 := Try.isAgg99
  z22 := Try.sizeOf99
  v22 := Try.zeroValue99
  a24 := Try.isAgg3
  z24 := Try.sizeOf3
  t25 := Try.underlying129
  a25 := Try.isAgg129
  z25 := Try.sizeOf129
  v25 := Try.zeroValue129
end Go.Proofs.Ytodmkjeankbieab
