/- Texts of this claim, packed. -/
import Derived.Test.YtodmkjeankbieabKAllk20
set_option linter.all false
namespace Go.Proofs.Ytodmkjeankbieab
open Go.RowKit Go.Sort Go.Maps

def Of8Post (w : World) (p : Pg) (sg sl : Nat) (e : Ending) (w' : World) : Prop :=
 ∃ (vw vc : Value) (Aa : Option Addr) (ca : Nat) (vst vn : Value) (ns : List Nat), e = .returned (.agg #[vw, vc, .slice Aa (allFs p ns sg sl).length ca, vst, vn]) ∧ W8 w' (fun b => b < w'.heap.size) vw vc Aa ca vst vn p ns sg sl ∧ Cnd8 p ns sg sl ∧ (∃ A n c, vn = .slice A n c) ∧ Fr w w'
def preG (p : Pg) (ns : List Nat) (sg sl kd : Nat) : List Fc := if kd = 4 then allFs p ns sg sl else preF p ns sg sl kd 0
section
variable {p : Pg} {ns : List Nat} {sg sl : Nat}
theorem preG_next {kd : Nat} (h : kd = 1 ∨ kd = 2 ∨ kd = 3) : preF p ns sg sl kd (manyP sg sl kd) = preG p ns sg sl (kd + 1) := by
 unfold preG
 rcases h with rfl | rfl | rfl
 · rw [if_neg (by decide)]; exact preF_next (by omega)
 · rw [if_neg (by decide)]; exact preF_next (by omega)
 · rw [if_pos rfl]; exact preF_end
theorem preG_lt {kd : Nat} (h : kd = 1 ∨ kd = 2 ∨ kd = 3) : preG p ns sg sl kd = preF p ns sg sl kd 0 := by
 unfold preG; rw [if_neg (by omega)]
theorem take_pre (l : List Nat) (f : Nat → Fc) (k : Nat) : (l.take k).map f <+: l.map f := by
 rw [List.map_take]; exact List.take_prefix _ _
theorem len_kn {x k : Nat} (h : (allFs p ns sg sl).length ≤ 2400) (hx : x < p.wide.length) (hw : wd p.wide (x : Int) = false) : (knTo p ns x ++ (ns.take k).map (knF (x : Int))).length ≤ 2400 := by
 refine all_len_of h (List.IsPrefix.trans ?_ (knTo_pre (x := x + 1) hx))
 rw [knTo_s, if_neg (by rw [hw]; decide)]
 exact List.prefix_append_right_inj _ |>.2 (take_pre _ _ _)
theorem len_is {kd n k : Nat} (h : (allFs p ns sg sl).length ≤ 2400) (hk : kd = 1 ∨ kd = 2 ∨ kd = 3) (hn : n < manyP sg sl kd) : (preF p ns sg sl kd n ++ isTo8 ns ⟨(kd : Int), (n : Int)⟩ k).length ≤ 2400 := by
 refine all_len_of h (List.IsPrefix.trans ?_ (preF_pre (n := n + 1) hk hn))
 rw [preF_s hk]
 refine List.prefix_append_right_inj _ |>.2 (List.IsPrefix.trans ?_ (List.prefix_append _ _))
 unfold isTo8
 split
 · exact List.prefix_refl _
 · rw [List.take_length]; exact take_pre _ _ _
theorem len_has {kd n x : Nat} (h : (allFs p ns sg sl).length ≤ 2400) (hk : kd = 1 ∨ kd = 2 ∨ kd = 3) (hn : n < manyP sg sl kd) (hx : x ≤ p.wide.length) : (preF p ns sg sl kd n ++ (isTo8 ns ⟨(kd : Int), (n : Int)⟩ ns.length ++ hasTo p ⟨(kd : Int), (n : Int)⟩ x)).length ≤ 2400 := by
 refine all_len_of h (List.IsPrefix.trans ?_ (preF_pre (n := n + 1) hk hn))
 rw [preF_s hk]
 refine List.prefix_append_right_inj _ |>.2 (List.prefix_append_right_inj _ |>.2 ?_)
 have h : ∀ m, x ≤ m → hasTo p ⟨(kd : Int), (n : Int)⟩ x <+: hasTo p ⟨(kd : Int), (n : Int)⟩ m := by
   intro m hm
   induction m with
   | zero => rw [Nat.le_zero.1 hm]; exact List.prefix_refl _
   | succ m ih =>
     rcases Nat.lt_or_ge m x with h | h
     · rw [show m + 1 = x by omega]; exact List.prefix_refl _
     · rw [hasTo_s]; exact (ih h).trans (List.prefix_append _ _)
 exact h _ hx
end
theorem own_base {w : World} {base base' : Nat} {e : TypeId} {size n : Nat} {v : Value} {xs : List Value} (h : w.ownsRow base e size v n xs) (hb : base' ≤ base) : w.ownsRow base' e size v n xs := by
 obtain ⟨h1, h2⟩ := h
 refine ⟨h1, ?_⟩
 rcases h2 with h2 | ⟨g, cap, cur, hv, hg, r⟩
 · exact Or.inl h2
 · exact Or.inr ⟨g, cap, cur, hv, by omega, r⟩
section
variable {w W0 w5 : World} {sg base cap gN : Nat} {cp : Array Value} {vw vc vA vS vN : Value} {ns : List Nat} {l : List Fc} {gw : Nat}
theorem OW.mk1 (hf : Fr w W0) (b0 : Blk W0 w.heap.size 25 cp) (b1 : Blk W0 (w.heap.size + 1) 47 #[.int .i64 (sg : Int)]) (b2 : Blk W0 (w.heap.size + 1 + 1) 121 #[.slice none 0 0, .slice none 0 0, .slice none 0 0, .slice none 0 0, .slice none 0 0]) (hs : W0.heap.size = w.heap.size + 1 + 1 + 1)
   (fa : Fr W0 w5) (hb : w.heap.size ≤ base) (ho : w5.ownsRow base 36 1 vN ns.length (ns.map fun (n : Nat) => Value.int .u32 (n : Int))) :
   OW w (w5.alloc (.cells #[vw, vc, .slice none 0 0, .slice none 0 0, vN] 121)) sg cp w5.heap.size vw vc (.slice none 0 0) (.slice none 0 0) vN [] ns := by
 have hsz := Kept.size fa
 exact ⟨(b0.kept fa (fun h => h)).alloc _, (b1.kept fa (fun h => h)).alloc _, (b2.kept fa (fun h => h)).alloc _, Blk.new w5 _ _, World.ownsRow_nil _ _ _ _, World.ownsRow.alloc (own_base ho hb) _, by omega, (hf.trans fa).alloc _⟩
theorem OW.mk2 (hf : Fr w W0) (b0 : Blk W0 w.heap.size 25 cp) (b1 : Blk W0 (w.heap.size + 1) 47 #[.int .i64 (sg : Int)]) (b2 : Blk W0 (w.heap.size + 1 + 1) 121 #[.slice none 0 0, .slice none 0 0, .slice none 0 0, .slice none 0 0, .slice none 0 0]) (hs : W0.heap.size = w.heap.size + 1 + 1 + 1)
   (fa : Fr W0 w5) (hb : w.heap.size ≤ base) (ho : w5.ownsRow base 36 1 vN ns.length (ns.map fun (n : Nat) => Value.int .u32 (n : Int))) (hg : Blk w5 W0.heap.size 121 #[.slice none 0 0, .slice none 0 0, .slice none 0 0, .slice none 0 0, .slice none 0 0]) :
   OW w (((((w5.setCell ⟨W0.heap.size, 0, none⟩ vw).setCell ⟨W0.heap.size, 1, none⟩ vc).setCell ⟨W0.heap.size, 2, none⟩ (.slice none 0 0)).setCell ⟨W0.heap.size, 3, none⟩ (.slice none 0 0)).setCell ⟨W0.heap.size, 4, none⟩ vN) sg cp W0.heap.size vw vc (.slice none 0 0) (.slice none 0 0) vN [] ns := by
 have hk : Kept (fun b => b = W0.heap.size) w5 (((((w5.setCell ⟨W0.heap.size, 0, none⟩ vw).setCell ⟨W0.heap.size, 1, none⟩ vc).setCell ⟨W0.heap.size, 2, none⟩ (.slice none 0 0)).setCell ⟨W0.heap.size, 3, none⟩ (.slice none 0 0)).setCell ⟨W0.heap.size, 4, none⟩ vN) :=
   ((((((Kept.refl (fun b => b = W0.heap.size) w5).setCell (p := ⟨W0.heap.size, 0, none⟩) (fun _ => rfl) _).setCell (p := ⟨W0.heap.size, 1, none⟩) (fun _ => rfl) _).setCell (p := ⟨W0.heap.size, 2, none⟩) (fun _ => rfl) _).setCell (p := ⟨W0.heap.size, 3, none⟩) (fun _ => rfl) _).setCell (p := ⟨W0.heap.size, 4, none⟩) (fun _ => rfl) _)
 have hb2 := ((((hg.set_ 0 vw).set_ 1 vc).set_ 2 (.slice none 0 0)).set_ 3 (.slice none 0 0)).set_ 4 vN
 have ho' := own_base ho hb
 exact ⟨(b0.kept fa (fun h => h)).kept hk (by omega), (b1.kept fa (fun h => h)).kept hk (by omega), (b2.kept fa (fun h => h)).kept hk (by omega), by simpa using hb2, World.ownsRow_nil _ _ _ _, own_kept ho' hk (fun g hg2 e => own_blk_ne ho' hg (by decide) (e ▸ hg2)), by omega,
   (hf.trans fa).then hk (fun i hi e => by omega)⟩
theorem OW.num (h : OW w W0 sg cp gw vw vc vA vS (.slice (some ⟨gN, 0, none⟩) ns.length cap) l ns) {k y : Nat} (hy : ns[k]? = some y) : W0.cell? ⟨gN, k, none⟩ = some (.int .u32 (y : Int)) := by
 have hk : k < ns.length := (List.getElem?_eq_some_iff.1 hy).1
 rw [h.on.cellAt k (by omega), List.getElem?_map, hy]; rfl
theorem OW.numlt (h : OW w W0 sg cp gw vw vc vA vS (.slice (some ⟨gN, 0, none⟩) ns.length cap) l ns) : gN < W0.heap.size := (own_lt h.on rfl).2
theorem hasTo_no {p : Pg} {k : Int} {n : Int} {x : Nat} (h : mayT p.wide k (x : Int) = false) : hasTo p ⟨k, n⟩ (x + 1) = hasTo p ⟨k, n⟩ x := by
 rw [hasTo_s]; simp [h]
theorem hasTo_yes {p : Pg} {k : Int} {n : Int} {x : Nat} (h : mayT p.wide k (x : Int) = true) : hasTo p ⟨k, n⟩ (x + 1) = hasTo p ⟨k, n⟩ x ++ [hasF ⟨k, n⟩ (x : Int)] := by
 rw [hasTo_s]; simp [h]
theorem RdPg.more8 {w : World} {R R' : Nat → Prop} {v : Value} {p : Pg} (h : RdPg w R v p) (hs : ∀ b, R b → R' b) : RdPg w R' v p := by
 obtain ⟨vw, vc, e, ⟨A, c, e1, hl, hr⟩, ⟨A', c', e2, hl', hr', ho'⟩⟩ := h
 exact ⟨vw, vc, e, ⟨A, c, e1, hl, hr.more hs⟩, ⟨A', c', e2, hl', hr'.more hs, ho'⟩⟩
theorem results_cell {P : Program} {fn : Func} {t : Tmp} {ty : TypeId} {a : Addr} {v : Value} {w : World} (h : fn.results = #[.cell t ty]) (tmps : Array Value) (ha : tmps.getD t undef = .pointer (some a)) (hl : (loadVar ty a).run P w = .ok v w) : (results fn tmps).run P w = .ok v w := by
 have ha' : tmps[t]?.getD undef = .pointer (some a) := by rw [← Array.getD_eq_getD_getElem?]; exact ha
 simp [results, h, ha', asAddr, hl]
set_option maxRecDepth 100000 in
theorem load_w8 {w : World} {b : Nat} {v0 v1 v2 v3 v4 : Value} (h : Blk w b 121 #[v0, v1, v2, v3, v4]) : (loadVar 121 ⟨b, 0, none⟩).run Try.prog w = .ok (.agg #[v0, v1, v2, v3, v4]) w := by
 have c0 := h.cell 0
 have c1 := h.cell 1
 have c2 := h.cell 2
 have c3 := h.cell 3
 have c4 := h.cell 4
 have z := h.lt
 simp only [List.getElem?_toArray, List.getElem?_cons_succ, List.getElem?_cons_zero] at c0 c1 c2 c3 c4
 go_simp
theorem OW.fin {w wr w' : World} {R : Nat → Prop} {p : Pg} {sg sl gw gm gs gN cv cN : Nat} {Av : Option Addr} {cp : Array Value} {vw vc : Value} {s : Nat → Value} {ns : List Nat}
   (hW : OW w wr sg cp gw vw vc (.slice Av (allFs p ns sg sl).length cv) (.slice (some ⟨gs, 0, none⟩) 4 4) (.slice (some ⟨gN, 0, none⟩) ns.length cN) (allFs p ns sg sl) ns) (hS : OS w wr sg sl gm gs s (stTo p ns sg sl 4 0))
   (hp : RdPg w R (.agg #[vw, vc]) p) (hR : ∀ x, R x → x < w.heap.size) (hk : Kept (fun b => b = w.heap.size + 1 + 1) wr w') :
   W8 w' (fun b => b < w'.heap.size) vw vc Av cv (.slice (some ⟨gs, 0, none⟩) 4 4) (.slice (some ⟨gN, 0, none⟩) ns.length cN) p ns sg sl ∧ Fr w w' := by
 have hf : Fr w w' := hW.fr.then hk (fun i hi e => by omega)
 have hsz := Kept.size hk
 refine ⟨⟨(hp.kept hf (fun _ _ h => h)).more8 (fun b hb => Nat.lt_of_lt_of_le (hR b hb) (Kept.size hf)), ?_, ?_⟩, hf⟩
 · obtain ⟨A, c, e, _, hr⟩ := own_reads hW.oa
   have e' : Av = A := by injection e
   rw [e']
   refine (hr.kept hk (fun b hb e2 => own_blk_ne hW.oa hW.b2 (by decide) (e2 ▸ hb.2))).more (fun b hb => Nat.lt_of_lt_of_le (own_lt hW.oa hb.2).2 hsz)
 · have hb := hS.bs.kept hk (fun e => hS.bs.ne_ hW.b2 (by decide) e)
   refine ⟨gs, 0, 4, s, rfl, Nat.lt_of_lt_of_le hS.bs.lt hsz, fun k hk4 => ⟨s k, rfl, ?_, ?_⟩⟩
   · rw [Nat.zero_add, hb.cell, mkS_at hk4]
   · have ho := hS.st k hk4
     obtain ⟨A, c, e, _, hr⟩ := own_reads ho
     rw [← stTo_end hk4]
     exact ⟨A, c, e, (hr.kept hk (fun b hb e2 => own_blk_ne ho hW.b2 (by decide) (e2 ▸ hb.2))).more (fun b hb => Nat.lt_of_lt_of_le (own_lt ho hb.2).2 hsz)⟩
end

set_option maxHeartbeats 16000000 in
set_option maxRecDepth 100000 in
theorem of8_any (R : Nat → Prop) (v : Value) (p : Pg) (sg sl : Nat) (w : World) (h : RdPg w R v p) (hw1 : 1 ≤ p.wide.length) (hw : p.wide.length ≤ 12) (hc1 : 1 ≤ p.code.length) (hc : p.code.length ≤ 40) (hs : sg ≤ 16) (hl : sl ≤ 12) (hno : NumOk p) (hR : ∀ x, R x → x < w.heap.size) :
   Calls Try.prog 64 #[v, .agg #[.int .i64 (sg : Int)], .int .i64 (sl : Int)] w (Of8Post w p sg sl) := by
 have HPG := Lib.hid h
 have HCN := Lib.hid (fun ns (h : NumsOk p ns) => (⟨h, hw1, hw, hc1, hc, hs, hl, hno⟩ : Cnd8 p ns sg sl))
 obtain ⟨vw, vc, rfl, ⟨A, c, rfl, hwl, hrw⟩, ⟨A', c', rfl, hcl, _, _⟩⟩ := h
 obtain ⟨bW, oW, rfl, _, hrc⟩ := hrw.2 (by omega)
 have HWC := Lib.hid (fun w2 (hf : Fr w w2) x (hx : x < p.wide.length) => (show w2.cell? ⟨bW, oW + x, none⟩ = some (.bool (wd p.wide (x : Int))) from by
   have h1 := hrc x (.bool (wd p.wide (x : Int))) (by rw [List.getElem?_map, List.getElem?_eq_getElem hx]; unfold wd; simp [List.getD, List.getElem?_eq_getElem hx])
   exact (Kept.cell hf (cell_lt h1) (fun h => h)).trans h1))
 have HRR := Lib.hid hR
 have HNB := Lib.hid (fun w2 (hf : Fr w w2) => numbers8_any R _ p w2 (HPG.out.kept hf (fun _ _ h => h)) hc)
 have HMY := Lib.hid (fun k t w2 (hf : Fr w w2) hk ht => may8_any R _ p k t w2 (HPG.out.kept hf (fun _ _ h => h)) hk ht)
 have HDEF : Hid (∀ (e : Ending) (w' : World), (∃ (vw vc : Value) (Aa : Option Addr) (ca : Nat) (vst vn : Value) (ns : List Nat), e = .returned (.agg #[vw, vc, .slice Aa (allFs p ns sg sl).length ca, vst, vn]) ∧ W8 w' (fun b => b < w'.heap.size) vw vc Aa ca vst vn p ns sg sl ∧ Cnd8 p ns sg sl ∧ (∃ A n c, vn = .slice A n c) ∧ Fr w w') → Of8Post w p sg sl e w') := fun _ _ h => h
 clear hrw hrc hR hno hwl hcl
 have HF0 := Lib.hid (show Fr w (((w.alloc (.cells #[.slice (some ⟨bW, oW, none⟩) p.wide.length c, .slice A' p.code.length c'] 25)).alloc (.cells #[.int .i64 (sg : Int)] 47)).alloc (.cells #[.slice none 0 0, .slice none 0 0, .slice none 0 0, .slice none 0 0, .slice none 0 0] 121)) from (((Kept.refl _ w).alloc _).alloc _).alloc _)
 have HB0 := Lib.hid (show Blk (((w.alloc (.cells #[.slice (some ⟨bW, oW, none⟩) p.wide.length c, .slice A' p.code.length c'] 25)).alloc (.cells #[.int .i64 (sg : Int)] 47)).alloc (.cells #[.slice none 0 0, .slice none 0 0, .slice none 0 0, .slice none 0 0, .slice none 0 0] 121)) w.heap.size 25 #[.slice (some ⟨bW, oW, none⟩) p.wide.length c, .slice A' p.code.length c'] from ((Blk.new w _ _).alloc _).alloc _)
 have HB1 := Lib.hid (show Blk (((w.alloc (.cells #[.slice (some ⟨bW, oW, none⟩) p.wide.length c, .slice A' p.code.length c'] 25)).alloc (.cells #[.int .i64 (sg : Int)] 47)).alloc (.cells #[.slice none 0 0, .slice none 0 0, .slice none 0 0, .slice none 0 0, .slice none 0 0] 121)) (w.heap.size + 1) 47 #[.int .i64 (sg : Int)] from by
   have := (Blk.new (w.alloc (.cells #[.slice (some ⟨bW, oW, none⟩) p.wide.length c, .slice A' p.code.length c'] 25)) 47 #[.int .i64 (sg : Int)]).alloc (.cells #[.slice none 0 0, .slice none 0 0, .slice none 0 0, .slice none 0 0, .slice none 0 0] 121)
   simpa using this)
 have HB2 := Lib.hid (show Blk (((w.alloc (.cells #[.slice (some ⟨bW, oW, none⟩) p.wide.length c, .slice A' p.code.length c'] 25)).alloc (.cells #[.int .i64 (sg : Int)] 47)).alloc (.cells #[.slice none 0 0, .slice none 0 0, .slice none 0 0, .slice none 0 0, .slice none 0 0] 121)) (w.heap.size + 1 + 1) 121 #[.slice none 0 0, .slice none 0 0, .slice none 0 0, .slice none 0 0, .slice none 0 0] from by
   have := Blk.new ((w.alloc (.cells #[.slice (some ⟨bW, oW, none⟩) p.wide.length c, .slice A' p.code.length c'] 25)).alloc (.cells #[.int .i64 (sg : Int)] 47)) 121 #[.slice none 0 0, .slice none 0 0, .slice none 0 0, .slice none 0 0, .slice none 0 0]
   simpa using this)
 have HS0 := Lib.hid (show (((w.alloc (.cells #[.slice (some ⟨bW, oW, none⟩) p.wide.length c, .slice A' p.code.length c'] 25)).alloc (.cells #[.int .i64 (sg : Int)] 47)).alloc (.cells #[.slice none 0 0, .slice none 0 0, .slice none 0 0, .slice none 0 0, .slice none 0 0] 121)).heap.size = w.heap.size + 1 + 1 + 1 from by simp)
 go_enter Try.func64, Try.ntmps64
 go_upto_region 1 with (fail)
 generalize (((w.alloc (.cells #[.slice (some ⟨bW, oW, none⟩) p.wide.length c, .slice A' p.code.length c'] 25)).alloc (.cells #[.int .i64 (sg : Int)] 47)).alloc (.cells #[.slice none 0 0, .slice none 0 0, .slice none 0 0, .slice none 0 0, .slice none 0 0] 121)) = W0 at *
 have c0 := HB0.out.cell 0
 have c1 := HB0.out.cell 1
 have z0 := HB0.out.lt
 simp only [List.getElem?_toArray, List.getElem?_cons_succ, List.getElem?_cons_zero] at c0 c1
 go_cut [7] from 16 to 138 (fun s7 wr => ∃ (gw : Nat) (vN : Value) (ns : List Nat), s7 = .pointer (some ⟨gw, 0, none⟩) ∧ Hid (NumsOk p ns) ∧ ns.length ≤ 41 ∧ Hid (OW w wr sg #[.slice (some ⟨bW, oW, none⟩) p.wide.length c, .slice A' p.code.length c'] gw (.slice (some ⟨bW, oW, none⟩) p.wide.length c) (.slice A' p.code.length c') (.slice none 0 0) (.slice none 0 0) vN [] ns))
 case first =>
   go_region_with (first
       | (go_at_call 95; refine (HNB.out _ (HF0.out.trans ((Kept.refl (fun _ => False) W0).drew))).mono ?_; rintro e w5 ⟨An, cn, ns, rfl, hnk, hnl, hown, fa0⟩; have fa := ((Kept.refl (fun _ => False) W0).drew).trans fa0; have x0 := (Kept.cell fa z0 (fun h => h)).trans c0; have x1 := (Kept.cell fa z0 (fun h => h)).trans c1; have zz := Nat.lt_of_lt_of_le z0 (Kept.size fa))
       | (go_at_call 95; refine (HNB.out _ (HF0.out.trans (((Kept.refl (fun _ => False) W0).alloc _).drew))).mono ?_; rintro e w5 ⟨An, cn, ns, rfl, hnk, hnl, hown, fa0⟩; have fa := (((Kept.refl (fun _ => False) W0).alloc _).drew).trans fa0; have x0 := (Kept.cell fa z0 (fun h => h)).trans c0; have x1 := (Kept.cell fa z0 (fun h => h)).trans c1; have zz := Nat.lt_of_lt_of_le z0 (Kept.size fa); have hg5 : Blk w5 W0.heap.size 121 #[.slice none 0 0, .slice none 0 0, .slice none 0 0, .slice none 0 0, .slice none 0 0] := Blk.kept ((Blk.new W0 _ _).drew) fa0 (fun h => h); have g0 := hg5.cell 0; have g1 := hg5.cell 1; have g2 := hg5.cell 2; have g3 := hg5.cell 3; have g4 := hg5.cell 4; have y0 := hg5.frozen 0; have y1 := hg5.frozen 1; have y2 := hg5.frozen 2; have y3 := hg5.frozen 3; have y4 := hg5.frozen 4; have zg := hg5.lt; simp only [List.getElem?_toArray, List.getElem?_cons_succ, List.getElem?_cons_zero] at g0 g1 g2 g3 g4))
   all_goals
     go_wp2
     go_meet
     first
       | (refine ⟨W0.heap.size, .slice An ns.length cn, ns, rfl, hnk, hnl, ?_⟩; exact OW.mk2 HF0.out HB0.out HB1.out HB2.out HS0.out fa (Kept.size (HF0.out.trans (((Kept.refl (fun _ => False) W0).alloc _).drew))) hown hg5)
       | (refine ⟨w5.heap.size, .slice An ns.length cn, ns, rfl, hnk, hnl, ?_⟩; exact OW.mk1 HF0.out HB0.out HB1.out HB2.out HS0.out fa (Kept.size (HF0.out.trans ((Kept.refl (fun _ => False) W0).drew))) hown)
 case rest =>
   obtain ⟨gw, vN, ns, rfl, HNO, hnl, HW⟩ := hcut
   have hn1 : 0 < ns.length := List.length_pos_of_mem ((HNO.out.mem 0).2 (Or.inl rfl))
   obtain ⟨gN, cN, rfl, _, _⟩ := own_some HW.out.on hn1
   have HC := Lib.hid (HCN.out ns HNO.out)
   have HLEN := Lib.hid HC.out.len
   clear c0 c1 z0 HB0 HB1 HB2 HS0 HF0 HNB HCN
   go_wp2
   go_loopw [8] (fun i wr => ∃ (x : Nat) (vA : Value), i = .int .i64 (x : Int) ∧ x ≤ p.wide.length ∧ Hid (OW w wr sg #[.slice (some ⟨bW, oW, none⟩) p.wide.length c, .slice A' p.code.length c'] gw (.slice (some ⟨bW, oW, none⟩) p.wide.length c) (.slice A' p.code.length c') vA (.slice none 0 0) (.slice (some ⟨gN, 0, none⟩) ns.length cN) (knTo p ns x) ns)) (fun i _ => p.wide.length - (intOf i).toNat)
   case atStart => exact ⟨0, _, rfl, Nat.zero_le _, HW⟩
   case round =>
     obtain ⟨x, vA, rfl, hx, hW⟩ := hrel
     clear HW
     have q0 := hW.out.b0.cell 0
     have zq := hW.out.b0.lt
     simp only [List.getElem?_toArray, List.getElem?_cons_succ, List.getElem?_cons_zero] at q0
     have hx0 : (0 : Int) ≤ (x : Int) := Int.natCast_nonneg _
     by_cases hxl : x < p.wide.length
     · have hx1 : (x : Int) < (p.wide.length : Int) := by omega
       cases hwd : wd p.wide (x : Int) with
       | true =>
         have HN := Lib.hid (show OW w wr sg #[.slice (some ⟨bW, oW, none⟩) p.wide.length c, .slice A' p.code.length c'] gw (.slice (some ⟨bW, oW, none⟩) p.wide.length c) (.slice A' p.code.length c') vA (.slice none 0 0) (.slice (some ⟨gN, 0, none⟩) ns.length cN) (knTo p ns (x + 1)) ns from by rw [knTo_s, if_pos hwd, List.append_nil]; exact hW.out)
         have HWD := Lib.hid hwd
         clear hW hwd
         go_wp2
         clear q0 zq
         go_loopw [9] (fun i wr => i = .int .i64 (0 : Int) ∧ Hid (OW w wr sg #[.slice (some ⟨bW, oW, none⟩) p.wide.length c, .slice A' p.code.length c'] gw (.slice (some ⟨bW, oW, none⟩) p.wide.length c) (.slice A' p.code.length c') vA (.slice none 0 0) (.slice (some ⟨gN, 0, none⟩) ns.length cN) (knTo p ns (x + 1)) ns)) (fun i _ => 0)
         case atStart => exact ⟨rfl, HN⟩
         case round =>
           obtain ⟨rfl, hW⟩ := hrel
           clear HN
           have q0 := hW.out.b0.cell 0
           have zq := hW.out.b0.lt
           have n4 := hW.out.bw.cell 4
           have zw := hW.out.bw.lt
           simp only [List.getElem?_toArray, List.getElem?_cons_succ, List.getElem?_cons_zero] at q0 n4
           have hcell := HWC.out _ hW.out.fr x hxl
           have hbW := cell_lt hcell
           rw [HWD.out] at hcell
           have hn2 : (0 : Int) < (ns.length : Int) := by omega
           go_wp2
           go_roundw
           case rel => exact ⟨x + 1, vA, by go_num, by omega, hW⟩
           case measure => simp [intOf] <;> omega
       | false =>
         have HWD := Lib.hid hwd
         have HN := Lib.hid (show OW w wr sg #[.slice (some ⟨bW, oW, none⟩) p.wide.length c, .slice A' p.code.length c'] gw (.slice (some ⟨bW, oW, none⟩) p.wide.length c) (.slice A' p.code.length c') vA (.slice none 0 0) (.slice (some ⟨gN, 0, none⟩) ns.length cN) (knTo p ns x ++ (ns.take 0).map (knF (x : Int))) ns from by rw [List.take_zero, List.map_nil, List.append_nil]; exact hW.out)
         clear hW hwd
         go_wp2
         clear q0 zq
         go_loopw [9] (fun i wr => ∃ (k : Nat) (vA : Value), i = .int .i64 (k : Int) ∧ k ≤ ns.length ∧ Hid (OW w wr sg #[.slice (some ⟨bW, oW, none⟩) p.wide.length c, .slice A' p.code.length c'] gw (.slice (some ⟨bW, oW, none⟩) p.wide.length c) (.slice A' p.code.length c') vA (.slice none 0 0) (.slice (some ⟨gN, 0, none⟩) ns.length cN) (knTo p ns x ++ (ns.take k).map (knF (x : Int))) ns)) (fun i _ => ns.length - (intOf i).toNat)
         case atStart => exact ⟨0, vA, rfl, Nat.zero_le _, HN⟩
         case round =>
           obtain ⟨k, vA, rfl, hk, hW⟩ := hrel
           clear HN
           have q0 := hW.out.b0.cell 0
           have zq := hW.out.b0.lt
           have g2 := hW.out.bw.cell 2
           have n4 := hW.out.bw.cell 4
           have zw := hW.out.bw.lt
           simp only [List.getElem?_toArray, List.getElem?_cons_succ, List.getElem?_cons_zero] at q0 g2 n4
           have hcell := HWC.out _ hW.out.fr x hxl
           have hbW := cell_lt hcell
           rw [HWD.out] at hcell
           have hk0 : (0 : Int) ≤ (k : Int) := Int.natCast_nonneg _
           by_cases hkl : k < ns.length
           · have hk1 : (k : Int) < (ns.length : Int) := by omega
             obtain ⟨y, hy⟩ : ∃ y, ns[k]? = some y := ⟨_, List.getElem?_eq_getElem hkl⟩
             have u1 := hW.out.num hy
             have zN := hW.out.numlt
             have hll := len_kn (k := k) HLEN.out hxl HWD.out
             have hpl : (knTo p ns x ++ (ns.take (k + 1)).map (knF (x : Int))) = (knTo p ns x ++ (ns.take k).map (knF (x : Int))) ++ [knF (x : Int) y] := by
               rw [List.take_add_one, hy]; simp
             clear hy
             obtain ⟨ln, hln⟩ : ∃ ln, ln = knTo p ns x ++ (ns.take (k + 1)).map (knF (x : Int)) := ⟨_, rfl⟩
             rw [← hln] at hpl
             have HLN := Lib.hid hln
             clear hln
             generalize knTo p ns x ++ (ns.take k).map (knF (x : Int)) = ll at *
             have HPL := Lib.hid hpl
             clear hpl
             obtain ⟨Av, cv, rfl, _, _⟩ := own_reads hW.out.oa
             have HXB := Lib.hid (hW.out.keep (((Kept.refl _ wr).alloc (.cells #[.int .i64 0, .int .i64 0, .bool true, .int .i64 (x : Int), .int .u32 (y : Int)] 140)).drew))
             have hsz := Kept.size hW.out.fr
             clear hW
             go_wp2
             go_region_law ((refine step_app (base := w.heap.size) (by rfl) slFacts (.tmp 43) (.tmp 51) (by rfl) (.slice Av ll.length cv) ll.length _ (by rfl) HXB.out.oa (fun _ => True) _ 1 1 _ (by rfl) (Reads.lit' (by simp) trivial rfl) (by simp [Value.oneCell']) (by omega) (by unfold maxLen; omega) (by simp; omega) ?_; intro v1 w1 hown1 hk1 hat1; obtain ⟨A1, c1, rfl, _⟩ := own_reads hown1; have HN := Lib.hid (HXB.out.putA (w1 := w1) (l' := ln) (by rw [HPL.out, flatL_snoc, List.length_append]; exact hown1) hk1); have hb1 := HXB.out.bw.kept hk1 (own_blk_ne HXB.out.oa HXB.out.bw (by decide)); have z3 := hb1.cell 2; have y3 := hb1.frozen 2; have zz := hb1.lt; simp only [List.getElem?_toArray, List.getElem?_cons_succ, List.getElem?_cons_zero] at z3; clear hown1 hk1 hat1 hb1))
             all_goals (go_wp2; go_roundw)
             all_goals first | exact ⟨k + 1, .slice A1 (ll.length + 1) c1, by go_num, by omega, by rw [← HLN.out]; exact HN⟩ | (simp [intOf] <;> omega)
           · obtain rfl : k = ns.length := by omega
             have HN := Lib.hid (show OW w wr sg #[.slice (some ⟨bW, oW, none⟩) p.wide.length c, .slice A' p.code.length c'] gw (.slice (some ⟨bW, oW, none⟩) p.wide.length c) (.slice A' p.code.length c') vA (.slice none 0 0) (.slice (some ⟨gN, 0, none⟩) ns.length cN) (knTo p ns (x + 1)) ns from by rw [knTo_s, if_neg (by rw [HWD.out]; decide)]; have h1 := hW.out; rw [List.take_length] at h1; exact h1)
             clear hW
             go_wp2
             go_roundw
             case rel => exact ⟨x + 1, vA, by go_num, by omega, HN⟩
             case measure => simp [intOf] <;> omega
     · obtain rfl : x = p.wide.length := by omega
       have HK := Lib.hid (show OW w wr sg #[.slice (some ⟨bW, oW, none⟩) p.wide.length c, .slice A' p.code.length c'] gw (.slice (some ⟨bW, oW, none⟩) p.wide.length c) (.slice A' p.code.length c') vA (.slice none 0 0) (.slice (some ⟨gN, 0, none⟩) ns.length cN) (knFs p ns) ns from hW.out)
       clear hW
       obtain ⟨wo, rfl⟩ : ∃ wo : World, wo = wr := ⟨_, rfl⟩
       go_upto_region 9 with fail
       clear q0 zq
       have t0 := HK.out.b1.cell 0
       have zt := HK.out.b1.lt
       simp only [List.getElem?_toArray, List.getElem?_cons_succ, List.getElem?_cons_zero] at t0
       go_cut [10] from 54 to 138 (fun s10 wr => ∃ (gm : Nat) (wq : World), wq = wr ∧ s10 = .slice (some ⟨gm, 0, none⟩) 4 4 ∧ w.heap.size ≤ gm ∧ Hid (OW w wr sg #[.slice (some ⟨bW, oW, none⟩) p.wide.length c, .slice A' p.code.length c'] gw (.slice (some ⟨bW, oW, none⟩) p.wide.length c) (.slice A' p.code.length c') vA (.slice none 0 0) (.slice (some ⟨gN, 0, none⟩) ns.length cN) (knFs p ns) ns) ∧ Hid (Blk wr gm 3 #[.int .i64 0, .int .i64 (sg : Int), .int .i64 ((sg : Int) / 2), .int .i64 (sl : Int)]))
       case first =>
         go_wp2
         go_meet
         refine ⟨wo.heap.size, _, rfl, rfl, Kept.size HK.out.fr, Lib.hid (HK.out.keep ((Kept.refl _ wo).alloc _)), Lib.hid (Blk.new wo _ _)⟩
       case rest =>
         obtain ⟨gm, wq, rfl, rfl, hgm, HK2, HBM⟩ := hcut
         go_upto_region 10 with fail
         have hkq : Fr wq (((((wq.alloc (.cells #[.int .i64 0] 3)).alloc (.cells #[] 3)).alloc (.cells #[] 3)).alloc (.cells #[] 3)).alloc (.cells #[.slice (some ⟨wq.heap.size, 0, none⟩) 1 1, .slice (some ⟨wq.heap.size + 1, 0, none⟩) 0 0, .slice (some ⟨wq.heap.size + 1 + 1, 0, none⟩) 0 0, .slice (some ⟨wq.heap.size + 1 + 1 + 1, 0, none⟩) 0 0] 99)) := (((((Kept.refl _ wq).alloc _).alloc _).alloc _).alloc _).alloc _
         have hbq := HK2.out.bw.kept hkq (fun h => h)
         have g3 := hbq.cell 3
         have y3 := hbq.frozen 3
         have zw := HK2.out.bw.lt
         simp only [List.getElem?_toArray, List.getElem?_cons_succ, List.getElem?_cons_zero] at g3
         clear hkq hbq
         go_cut [10] from 61 to 138 (fun s10 wr => s10 = .slice (some ⟨gm, 0, none⟩) 4 4 ∧ ∃ (gs : Nat) (s : Nat → Value), Hid (OW w wr sg #[.slice (some ⟨bW, oW, none⟩) p.wide.length c, .slice A' p.code.length c'] gw (.slice (some ⟨bW, oW, none⟩) p.wide.length c) (.slice A' p.code.length c') vA (.slice (some ⟨gs, 0, none⟩) 4 4) (.slice (some ⟨gN, 0, none⟩) ns.length cN) (knFs p ns) ns) ∧ Hid (OS w wr sg sl gm gs s (stTo p ns sg sl 1 0)))
         case first =>
           go_wp2
           go_meet
           exact ⟨rfl, OS.start HK2.out HBM.out hgm⟩
         case rest =>
           obtain ⟨rfl, gs, s0, HW3, HS3⟩ := hcut
           clear HK HK2 HBM g3 y3 zw t0 zt
           have HW4 := Lib.hid (show OW w _ sg #[.slice (some ⟨bW, oW, none⟩) p.wide.length c, .slice A' p.code.length c'] gw (.slice (some ⟨bW, oW, none⟩) p.wide.length c) (.slice A' p.code.length c') vA (.slice (some ⟨gs, 0, none⟩) 4 4) (.slice (some ⟨gN, 0, none⟩) ns.length cN) (preG p ns sg sl 1) ns from by rw [preG_lt (by omega), preF_one]; exact HW3.out)
           clear HW3
           go_wp2
           go_loopw [11] (fun i wr => ∃ (kd : Nat) (vA : Value) (s : Nat → Value), i = .int .i64 (kd : Int) ∧ 1 ≤ kd ∧ kd ≤ 4 ∧ Hid (OW w wr sg #[.slice (some ⟨bW, oW, none⟩) p.wide.length c, .slice A' p.code.length c'] gw (.slice (some ⟨bW, oW, none⟩) p.wide.length c) (.slice A' p.code.length c') vA (.slice (some ⟨gs, 0, none⟩) 4 4) (.slice (some ⟨gN, 0, none⟩) ns.length cN) (preG p ns sg sl kd) ns) ∧ Hid (OS w wr sg sl gm gs s (stTo p ns sg sl kd 0))) (fun i _ => 4 - (intOf i).toNat)
           case atStart => exact ⟨1, _, s0, rfl, by omega, by omega, HW4, HS3⟩
           case round =>
             obtain ⟨kd, vA, s, rfl, hk1, hk4, hW, hS⟩ := hrel
             clear HW4 HS3
             by_cases hk3 : kd ≤ 3
             · have hkk : kd = 1 ∨ kd = 2 ∨ kd = 3 := by omega
               have hki : (kd : Int) ≤ 3 := by omega
               have HN0 := Lib.hid (show OW w wr sg #[.slice (some ⟨bW, oW, none⟩) p.wide.length c, .slice A' p.code.length c'] gw (.slice (some ⟨bW, oW, none⟩) p.wide.length c) (.slice A' p.code.length c') vA (.slice (some ⟨gs, 0, none⟩) 4 4) (.slice (some ⟨gN, 0, none⟩) ns.length cN) (preF p ns sg sl kd 0) ns from by rw [← preG_lt hkk]; exact hW.out)
               have HS0 := hS
               clear hW hS
               go_wp2
               go_loopw [12] (fun i wr => ∃ (n : Nat) (vA : Value) (s : Nat → Value), i = .int .i64 (n : Int) ∧ n ≤ manyP sg sl kd ∧ Hid (OW w wr sg #[.slice (some ⟨bW, oW, none⟩) p.wide.length c, .slice A' p.code.length c'] gw (.slice (some ⟨bW, oW, none⟩) p.wide.length c) (.slice A' p.code.length c') vA (.slice (some ⟨gs, 0, none⟩) 4 4) (.slice (some ⟨gN, 0, none⟩) ns.length cN) (preF p ns sg sl kd n) ns) ∧ Hid (OS w wr sg sl gm gs s (stTo p ns sg sl kd n))) (fun i _ => manyP sg sl kd - (intOf i).toNat)
               case atStart => exact ⟨0, vA, s, rfl, Nat.zero_le _, HN0, HS0⟩
               case round =>
                 obtain ⟨n, vA, s, rfl, hn, hW, hS⟩ := hrel
                 clear HN0 HS0
                 have m1 := hS.out.many hkk
                 have zm := hS.out.bm.lt
                 have hkd0 : (0 : Int) ≤ (kd : Int) := Int.natCast_nonneg _
                 have hkd1 : (kd : Int) < 4 := by omega
                 have hmi := Lib.hid (manyP_le (k := kd) hs hl)
                 by_cases hnl : n < manyP sg sl kd
                 · have hni : (n : Int) < (manyP sg sl kd : Int) := by omega
                   have hn16 : n < 16 := by have := hmi.out; omega
                   have HSE := Lib.hid (stTo_s (p := p) (ns := ns) (sg := sg) (sl := sl) (n := n) hk1)
                   have hsl := stTo_len (p := p) (ns := ns) (kind := kd) (n := n) (j := kd) hs hl hn
                   obtain ⟨As, cs, hes, _, _⟩ := own_reads (hS.out.st kd (by omega))
                   have HES := Lib.hid hes
                   obtain ⟨Av, cv, rfl, _, _⟩ := own_reads hW.out.oa
                   go_upto_region 18 with fail
                   have HX := Lib.hid (hW.out.keep ((Kept.refl _ wr).alloc (.cells #[.int .i64 (kd : Int), .int .i64 (n : Int)] 57)))
                   have HSX := Lib.hid (hS.out.keep ((Kept.refl _ wr).alloc (.cells #[.int .i64 (kd : Int), .int .i64 (n : Int)] 57)))
                   have HPX := Lib.hid (Blk.new wr 57 #[.int .i64 (kd : Int), .int .i64 (n : Int)])
                   clear hW hS m1 zm
                   generalize wr.alloc (.cells #[.int .i64 (kd : Int), .int .i64 (n : Int)] 57) = w3 at *
                   generalize wr.heap.size = gp at *
                   have hsz := Kept.size HX.out.fr
                   have g2 := HX.out.bw.cell 2
                   have g3 := HX.out.bw.cell 3
                   have zw := HX.out.bw.lt
                   have s3 := HSX.out.bs.cell kd
                   have zs := HSX.out.bs.lt
                   simp only [List.getElem?_toArray, List.getElem?_cons_succ, List.getElem?_cons_zero] at g2 g3
                   rw [mkS_at (by omega), hes] at s3
                   clear hes
                   have HXB := Lib.hid (HX.out.keep (((Kept.refl _ w3).alloc (.cells #[.int .i64 ((preF p ns sg sl kd n).length : Int)] 3)).drew))
                   have HSB := Lib.hid (HSX.out.keep (((Kept.refl _ w3).alloc (.cells #[.int .i64 ((preF p ns sg sl kd n).length : Int)] 3)).drew))
                   have HPB := Lib.hid (HPX.out.kept (((Kept.refl (fun _ => False) w3).alloc (.cells #[.int .i64 ((preF p ns sg sl kd n).length : Int)] 3)).drew) (fun h => h))
                   have HOX := Lib.hid (by have h1 := HSB.out.st kd (by omega); rw [HES.out] at h1; exact h1)
                   clear HX HSX HPX
                   go_cut [13] from 82 to 137 (fun s13 wr => ∃ s' : Nat → Value, s13 = .pointer (some ⟨gp, 0, none⟩) ∧ Hid (OW w wr sg #[.slice (some ⟨bW, oW, none⟩) p.wide.length c, .slice A' p.code.length c'] gw (.slice (some ⟨bW, oW, none⟩) p.wide.length c) (.slice A' p.code.length c') (.slice Av (preF p ns sg sl kd n).length cv) (.slice (some ⟨gs, 0, none⟩) 4 4) (.slice (some ⟨gN, 0, none⟩) ns.length cN) (preF p ns sg sl kd n) ns) ∧ Hid (OS w wr sg sl gm gs s' (stTo p ns sg sl kd (n + 1))) ∧ Hid (Blk wr gp 57 #[.int .i64 (kd : Int), .int .i64 (n : Int)]))
                   case first =>
                     go_region_law ((refine step_app (base := w.heap.size) (by rfl) slInts (.tmp 89) (.tmp 93) (by rfl) (.slice As (stTo p ns sg sl kd n kd).length cs) (stTo p ns sg sl kd n kd).length _ (by rfl) HOX.out (fun _ => True) _ 1 1 _ (by rfl) (Reads.lit' (by simp) trivial rfl) (by simp [Value.oneCell']) (by omega) (by unfold maxLen; omega) (by simp <;> omega) ?_; intro v1 w1 hown1 hk1 hat1; obtain ⟨A1, c1, rfl, _⟩ := own_reads hown1; have hks := hk1; rw [← HES.out] at hks; have hats := hat1; rw [← HES.out] at hats; have hk4' : kd < 4 := (by omega); have HNW := Lib.hid (HXB.out.putS (v1 := .slice A1 ((stTo p ns sg sl kd n kd).length + 1) c1) HSB.out hk4' hks); have HNS := Lib.hid (HSB.out.putS (v1 := .slice A1 ((stTo p ns sg sl kd n kd).length + 1) c1) hk4' (L' := stTo p ns sg sl kd (n + 1)) (by rw [HSE.out, List.length_append, List.map_append]; exact hown1) (fun j hj => stTo_ne hj) hks hats); have hb1 := HSB.out.bs.kept hks (own_blk_ne (HSB.out.st kd hk4') HSB.out.bs (by decide)); have hb2 := HPB.out.kept hks (own_blk_ne (HSB.out.st kd hk4') HPB.out (by decide)); have HPC := Lib.hid (hb2.kept ((Kept.refl (fun b => b = gs) w1).setCell (p := ⟨gs, kd, none⟩) (fun _ => rfl) (.slice A1 ((stTo p ns sg sl kd n kd).length + 1) c1)) (fun e => hb2.ne_ hb1 (by decide) e)); have z3 := hb1.cell kd; have y3 := hb1.frozen kd; have zz := hb1.lt; rw [mkS_at hk4'] at z3; have hb3 := HXB.out.bw.kept hks (own_blk_ne (HSB.out.st kd hk4') HXB.out.bw (by decide)); have z4 := hb3.cell 3; have zz2 := hb3.lt; simp only [List.getElem?_toArray, List.getElem?_cons_succ, List.getElem?_cons_zero] at z4; clear hown1 hk1 hat1 hb1 hb2 hb3 hks hats))
                     all_goals
                       go_wp2
                       go_meet
                       exact ⟨_, rfl, HNW, HNS, HPC⟩
                   case rest =>
                     obtain ⟨s', rfl, HWL, HSL, HPL⟩ := hcut
                     clear HXB HSB HPB HOX HES HSE g2 g3 zw s3 zs hsz hsl
                     by_cases hkd : kd = 2
                     · have hke : ((kd : Int) != 2) = false := by simp; omega
                       have hke2 : ((kd : Int) == 2) = true := by simp; omega
                       have HA := Lib.hid (show OW w _ sg #[.slice (some ⟨bW, oW, none⟩) p.wide.length c, .slice A' p.code.length c'] gw (.slice (some ⟨bW, oW, none⟩) p.wide.length c) (.slice A' p.code.length c') _ (.slice (some ⟨gs, 0, none⟩) 4 4) (.slice (some ⟨gN, 0, none⟩) ns.length cN) (preF p ns sg sl kd n ++ isTo8 ns ⟨(kd : Int), (n : Int)⟩ ns.length) ns from by rw [isTo8_two (show ((⟨(kd : Int), (n : Int)⟩ : PlaceV).k = 2) from by simp only; omega), List.append_nil]; exact HWL.out)
                       clear HWL hkd
                       go_wp2
                       go_loopw [14] (fun i wr => i = .int .i64 0 ∧ Hid (OW w wr sg #[.slice (some ⟨bW, oW, none⟩) p.wide.length c, .slice A' p.code.length c'] gw (.slice (some ⟨bW, oW, none⟩) p.wide.length c) (.slice A' p.code.length c') (.slice Av (preF p ns sg sl kd n).length cv) (.slice (some ⟨gs, 0, none⟩) 4 4) (.slice (some ⟨gN, 0, none⟩) ns.length cN) (preF p ns sg sl kd n ++ isTo8 ns ⟨(kd : Int), (n : Int)⟩ ns.length) ns) ∧ Hid (OS w wr sg sl gm gs s' (stTo p ns sg sl kd (n + 1))) ∧ Hid (Blk wr gp 57 #[.int .i64 (kd : Int), .int .i64 (n : Int)])) (fun i _ => 0)
                       case atStart => exact ⟨rfl, HA, HSL, HPL⟩
                       case round =>
                         obtain ⟨rfl, hW, hS, hP⟩ := hrel
                         clear HA HSL HPL
                         have n4 := hW.out.bw.cell 4
                         have zw := hW.out.bw.lt
                         simp only [List.getElem?_toArray, List.getElem?_cons_succ, List.getElem?_cons_zero] at n4
                         have hn2 : (0 : Int) < (ns.length : Int) := by omega
                         have HB := Lib.hid (show OW w _ sg #[.slice (some ⟨bW, oW, none⟩) p.wide.length c, .slice A' p.code.length c'] gw (.slice (some ⟨bW, oW, none⟩) p.wide.length c) (.slice A' p.code.length c') _ (.slice (some ⟨gs, 0, none⟩) 4 4) (.slice (some ⟨gN, 0, none⟩) ns.length cN) (preF p ns sg sl kd n ++ (isTo8 ns ⟨(kd : Int), (n : Int)⟩ ns.length ++ hasTo p ⟨(kd : Int), (n : Int)⟩ 0)) ns from by rw [hasTo_z, List.append_nil]; exact hW.out)
                         clear hW
                         go_wp2
                         go_loopw [15] (fun i wr => ∃ (x : Nat) (vA : Value), i = .int .i64 (x : Int) ∧ x ≤ p.wide.length ∧ Hid (OW w wr sg #[.slice (some ⟨bW, oW, none⟩) p.wide.length c, .slice A' p.code.length c'] gw (.slice (some ⟨bW, oW, none⟩) p.wide.length c) (.slice A' p.code.length c') vA (.slice (some ⟨gs, 0, none⟩) 4 4) (.slice (some ⟨gN, 0, none⟩) ns.length cN) (preF p ns sg sl kd n ++ (isTo8 ns ⟨(kd : Int), (n : Int)⟩ ns.length ++ hasTo p ⟨(kd : Int), (n : Int)⟩ x)) ns) ∧ Hid (OS w wr sg sl gm gs s' (stTo p ns sg sl kd (n + 1))) ∧ Hid (Blk wr gp 57 #[.int .i64 (kd : Int), .int .i64 (n : Int)])) (fun i _ => p.wide.length - (intOf i).toNat)
                         case atStart => exact ⟨0, _, rfl, Nat.zero_le _, HB, hS, hP⟩
                         case round =>
                           clear HB hS hP
                           obtain ⟨x, vA, rfl, hx, hW, hS, hP⟩ := hrel
                           have q0 := hW.out.b0.cell 0
                           have q1 := hW.out.b0.cell 1
                           have zq := hW.out.b0.lt
                           simp only [List.getElem?_toArray, List.getElem?_cons_succ, List.getElem?_cons_zero] at q0 q1
                           have hx0 : (0 : Int) ≤ (x : Int) := Int.natCast_nonneg _
                           by_cases hxl : x < p.wide.length
                           · have hx1 : (x : Int) < (p.wide.length : Int) := by omega
                             have HMX := HMY.out kd x _ hW.out.fr hkk hxl
                             cases hm : mayT p.wide (kd : Int) (x : Int) with
                             | false =>
                               rw [hm] at HMX
                               have HMH := Lib.hid HMX
                               have HME := Lib.hid (hasTo_no (n := (n : Int)) hm)
                               clear HMX hm
                               go_wp2_with fail
                               refine HMH.out.mono ?_
                               rintro e w4 ⟨rfl, f4⟩
                               have HN := Lib.hid (show OW w _ sg #[.slice (some ⟨bW, oW, none⟩) p.wide.length c, .slice A' p.code.length c'] gw (.slice (some ⟨bW, oW, none⟩) p.wide.length c) (.slice A' p.code.length c') vA (.slice (some ⟨gs, 0, none⟩) 4 4) (.slice (some ⟨gN, 0, none⟩) ns.length cN) (preF p ns sg sl kd n ++ (isTo8 ns ⟨(kd : Int), (n : Int)⟩ ns.length ++ hasTo p ⟨(kd : Int), (n : Int)⟩ (x + 1))) ns from by rw [HME.out]; exact hW.out.keep f4)
                               have HNS := Lib.hid (hS.out.keep f4)
                               have HNP := Lib.hid (hP.out.kept f4 (fun h => h))
                               clear hW hS hP f4 HMH
                               go_wp2
                               go_roundw
                               case rel => exact ⟨x + 1, vA, by go_num, by omega, HN, HNS, HNP⟩
                               case measure => simp [intOf] <;> omega
                             | true =>
                               rw [hm] at HMX
                               have HMH := Lib.hid HMX
                               have hpl : (preF p ns sg sl kd n ++ (isTo8 ns ⟨(kd : Int), (n : Int)⟩ ns.length ++ hasTo p ⟨(kd : Int), (n : Int)⟩ (x + 1))) = (preF p ns sg sl kd n ++ (isTo8 ns ⟨(kd : Int), (n : Int)⟩ ns.length ++ hasTo p ⟨(kd : Int), (n : Int)⟩ x)) ++ [hasF ⟨(kd : Int), (n : Int)⟩ (x : Int)] := by
                                 rw [hasTo_yes hm]; simp
                               have hll := len_has (p := p) (ns := ns) (n := n) (x := x) HLEN.out hkk hnl hx
                               clear HMX hm
                               obtain ⟨ln, hln⟩ : ∃ ln, ln = (preF p ns sg sl kd n ++ (isTo8 ns ⟨(kd : Int), (n : Int)⟩ ns.length ++ hasTo p ⟨(kd : Int), (n : Int)⟩ (x + 1))) := ⟨_, rfl⟩
                               rw [← hln] at hpl
                               have HLN := Lib.hid hln
                               clear hln
                               generalize (preF p ns sg sl kd n ++ (isTo8 ns ⟨(kd : Int), (n : Int)⟩ ns.length ++ hasTo p ⟨(kd : Int), (n : Int)⟩ x)) = ll at *
                               have HPL := Lib.hid hpl
                               clear hpl
                               obtain ⟨Av, cv, rfl, _, _⟩ := own_reads hW.out.oa
                               go_wp2_with fail
                               refine HMH.out.mono ?_
                               rintro e w4 ⟨rfl, f4⟩
                               have HW4 := hW.out.keep f4
                               have HS4 := hS.out.keep f4
                               have HP4 := hP.out.kept f4 (fun h => h)
                               have g2 := HW4.bw.cell 2
                               have zw4 := HW4.bw.lt
                               have p0 := HP4.cell 0
                               have p1 := HP4.cell 1
                               have zp := HP4.lt
                               simp only [List.getElem?_toArray, List.getElem?_cons_succ, List.getElem?_cons_zero] at g2 p0 p1
                               have HXB := Lib.hid (HW4.keep ((Kept.refl _ w4).alloc (.cells #[.int .i64 (kd : Int), .int .i64 (n : Int), .bool true, .int .i64 (x : Int), .int .u32 0] 140)))
                               have HSB := Lib.hid (HS4.keep ((Kept.refl _ w4).alloc (.cells #[.int .i64 (kd : Int), .int .i64 (n : Int), .bool true, .int .i64 (x : Int), .int .u32 0] 140)))
                               have HPB := Lib.hid (HP4.kept ((Kept.refl (fun _ => False) w4).alloc (.cells #[.int .i64 (kd : Int), .int .i64 (n : Int), .bool true, .int .i64 (x : Int), .int .u32 0] 140)) (fun h => h))
                               have hsz := Kept.size HW4.fr
                               clear hW hS hP HW4 HS4 HP4 f4 HMH q0 q1 zq
                               go_wp2_with (at_builtin
                                            refine wpList_app (base := w.heap.size) _ rfl slFacts (.tmp 131) (.tmp 135) rfl (.slice Av ll.length cv) ll.length _ rfl HXB.out.oa (fun _ => True) _ 1 1 [.int .i64 (kd : Int), .int .i64 (n : Int), .bool true, .int .i64 (x : Int), .int .u32 0] rfl (Reads.lit' (by simp) trivial rfl) ?_ ?_ ?_ ?_ ?_
                                            · simp [Value.oneCell']
                                            · omega
                                            · unfold maxLen; omega
                                            · simp; omega
                                            intro v1 w1 hown1 hk1 hat1
                                            obtain ⟨A1, c1, rfl, _⟩ := own_reads hown1
                                            have HN := Lib.hid (HXB.out.putA (w1 := w1) (l' := ln) (by rw [HPL.out, flatL_snoc, List.length_append]; exact hown1) hk1)
                                            have hb1 := HXB.out.bw.kept hk1 (own_blk_ne HXB.out.oa HXB.out.bw (by decide))
                                            have HNS := Lib.hid (HSB.out.putA (v1 := .slice A1 (ll.length + 1) c1) HXB.out hk1)
                                            have hbp := HPB.out.kept hk1 (own_blk_ne HXB.out.oa HPB.out (by decide))
                                            have HNP := Lib.hid (hbp.kept ((Kept.refl (fun b => b = gw) w1).setCell (p := ⟨gw, 2, none⟩) (fun _ => rfl) (.slice A1 (ll.length + 1) c1)) (fun e => hbp.ne_ hb1 (by decide) e))
                                            have z3 := hb1.cell 2
                                            have y3 := hb1.frozen 2
                                            have zz := hb1.lt
                                            simp only [List.getElem?_toArray, List.getElem?_cons_succ, List.getElem?_cons_zero] at z3
                                            clear hown1 hk1 hat1 hb1 hbp HXB HSB HPB g2 zw4 p0 p1 zp)
                               go_roundw
                               case rel => exact ⟨x + 1, .slice A1 (ll.length + 1) c1, by go_num, by omega, by rw [← HLN.out]; exact HN, HNS, HNP⟩
                               case measure => simp [intOf] <;> omega
                           · obtain rfl : x = p.wide.length := by omega
                             have HN := Lib.hid (show OW w _ sg #[.slice (some ⟨bW, oW, none⟩) p.wide.length c, .slice A' p.code.length c'] gw (.slice (some ⟨bW, oW, none⟩) p.wide.length c) (.slice A' p.code.length c') vA (.slice (some ⟨gs, 0, none⟩) 4 4) (.slice (some ⟨gN, 0, none⟩) ns.length cN) (preF p ns sg sl kd (n + 1)) ns from by rw [preF_s hkk]; exact hW.out)
                             clear hW hP
                             go_wp2
                             go_roundw
                             case rel => exact ⟨n + 1, vA, s', by go_num, by omega, HN, hS⟩
                             case measure => simp [intOf] <;> omega
                     · have hke : ((kd : Int) != 2) = true := by simp; omega
                       have hke2 : ((kd : Int) == 2) = false := by simp; omega
                       have HKN := Lib.hid (show (⟨(kd : Int), (n : Int)⟩ : PlaceV).k ≠ 2 from by simp only; omega)
                       have HA := Lib.hid (show OW w _ sg #[.slice (some ⟨bW, oW, none⟩) p.wide.length c, .slice A' p.code.length c'] gw (.slice (some ⟨bW, oW, none⟩) p.wide.length c) (.slice A' p.code.length c') _ (.slice (some ⟨gs, 0, none⟩) 4 4) (.slice (some ⟨gN, 0, none⟩) ns.length cN) (preF p ns sg sl kd n ++ isTo8 ns ⟨(kd : Int), (n : Int)⟩ 0) ns from by rw [isTo8_z, List.append_nil]; exact HWL.out)
                       clear HWL hkd
                       go_wp2
                       go_loopw [14] (fun i wr => ∃ (k : Nat) (vA : Value), i = .int .i64 (k : Int) ∧ k ≤ ns.length ∧ Hid (OW w wr sg #[.slice (some ⟨bW, oW, none⟩) p.wide.length c, .slice A' p.code.length c'] gw (.slice (some ⟨bW, oW, none⟩) p.wide.length c) (.slice A' p.code.length c') vA (.slice (some ⟨gs, 0, none⟩) 4 4) (.slice (some ⟨gN, 0, none⟩) ns.length cN) (preF p ns sg sl kd n ++ isTo8 ns ⟨(kd : Int), (n : Int)⟩ k) ns) ∧ Hid (OS w wr sg sl gm gs s' (stTo p ns sg sl kd (n + 1))) ∧ Hid (Blk wr gp 57 #[.int .i64 (kd : Int), .int .i64 (n : Int)])) (fun i _ => ns.length - (intOf i).toNat)
                       case atStart => exact ⟨0, _, rfl, Nat.zero_le _, HA, HSL, HPL⟩
                       case round =>
                         obtain ⟨k, vA, rfl, hk, hW, hS, hP⟩ := hrel
                         clear HA HSL HPL
                         have g2 := hW.out.bw.cell 2
                         have n4 := hW.out.bw.cell 4
                         have zw := hW.out.bw.lt
                         simp only [List.getElem?_toArray, List.getElem?_cons_succ, List.getElem?_cons_zero] at g2 n4
                         have hk0 : (0 : Int) ≤ (k : Int) := Int.natCast_nonneg _
                         by_cases hkl : k < ns.length
                         · have hk1' : (k : Int) < (ns.length : Int) := by omega
                           obtain ⟨y, hy⟩ : ∃ y, ns[k]? = some y := ⟨_, List.getElem?_eq_getElem hkl⟩
                           have u1 := hW.out.num hy
                           have zN := hW.out.numlt
                           have p0 := hP.out.cell 0
                           have p1 := hP.out.cell 1
                           have zp := hP.out.lt
                           simp only [List.getElem?_toArray, List.getElem?_cons_succ, List.getElem?_cons_zero] at p0 p1
                           have hll := len_is (p := p) (ns := ns) (n := n) (k := k) HLEN.out hkk hnl
                           have hpl : (preF p ns sg sl kd n ++ isTo8 ns ⟨(kd : Int), (n : Int)⟩ (k + 1)) = (preF p ns sg sl kd n ++ isTo8 ns ⟨(kd : Int), (n : Int)⟩ k) ++ [isF ⟨(kd : Int), (n : Int)⟩ y] := by
                             rw [isTo8_s HKN.out hy]; simp
                           clear hy
                           obtain ⟨ln, hln⟩ : ∃ ln, ln = preF p ns sg sl kd n ++ isTo8 ns ⟨(kd : Int), (n : Int)⟩ (k + 1) := ⟨_, rfl⟩
                           rw [← hln] at hpl
                           have HLN := Lib.hid hln
                           clear hln
                           generalize preF p ns sg sl kd n ++ isTo8 ns ⟨(kd : Int), (n : Int)⟩ k = ll at *
                           have HPL := Lib.hid hpl
                           clear hpl
                           obtain ⟨Av, cv, rfl, _, _⟩ := own_reads hW.out.oa
                           have HXB := Lib.hid (hW.out.keep (((Kept.refl _ wr).alloc (.cells #[.int .i64 (kd : Int), .int .i64 (n : Int), .bool false, .int .i64 0, .int .u32 (y : Int)] 140)).drew))
                           have HSB := Lib.hid (hS.out.keep (((Kept.refl _ wr).alloc (.cells #[.int .i64 (kd : Int), .int .i64 (n : Int), .bool false, .int .i64 0, .int .u32 (y : Int)] 140)).drew))
                           have HPB := Lib.hid (hP.out.kept (((Kept.refl (fun _ => False) wr).alloc (.cells #[.int .i64 (kd : Int), .int .i64 (n : Int), .bool false, .int .i64 0, .int .u32 (y : Int)] 140)).drew) (fun h => h))
                           have hsz := Kept.size hW.out.fr
                           clear hW hS hP
                           go_wp2
                           go_region_law ((refine step_app (base := w.heap.size) (by rfl) slFacts (.tmp 108) (.tmp 116) (by rfl) (.slice Av ll.length cv) ll.length _ (by rfl) HXB.out.oa (fun _ => True) _ 1 1 _ (by rfl) (Reads.lit' (by simp) trivial rfl) (by simp [Value.oneCell']) (by omega) (by unfold maxLen; omega) (by simp; omega) ?_; intro v1 w1 hown1 hk1 hat1; obtain ⟨A1, c1, rfl, _⟩ := own_reads hown1; have HN := Lib.hid (HXB.out.putA (w1 := w1) (l' := ln) (by rw [HPL.out, flatL_snoc, List.length_append]; exact hown1) hk1); have hb1 := HXB.out.bw.kept hk1 (own_blk_ne HXB.out.oa HXB.out.bw (by decide)); have z3 := hb1.cell 2; have y3 := hb1.frozen 2; have zz := hb1.lt; simp only [List.getElem?_toArray, List.getElem?_cons_succ, List.getElem?_cons_zero] at z3; have HNS := Lib.hid (HSB.out.putA (v1 := .slice A1 (ll.length + 1) c1) HXB.out hk1); have hbp := HPB.out.kept hk1 (own_blk_ne HXB.out.oa HPB.out (by decide)); have HNP := Lib.hid (hbp.kept ((Kept.refl (fun b => b = gw) w1).setCell (p := ⟨gw, 2, none⟩) (fun _ => rfl) (.slice A1 (ll.length + 1) c1)) (fun e => hbp.ne_ hb1 (by decide) e)); clear hbp; clear hown1 hk1 hat1 hb1))
                           all_goals (go_wp2; go_roundw)
                           all_goals first | exact ⟨k + 1, .slice A1 (ll.length + 1) c1, by go_num, by omega, by rw [← HLN.out]; exact HN, HNS, HNP⟩ | (simp [intOf] <;> omega)
                         · obtain rfl : k = ns.length := by omega
                           have HB := Lib.hid (show OW w _ sg #[.slice (some ⟨bW, oW, none⟩) p.wide.length c, .slice A' p.code.length c'] gw (.slice (some ⟨bW, oW, none⟩) p.wide.length c) (.slice A' p.code.length c') _ (.slice (some ⟨gs, 0, none⟩) 4 4) (.slice (some ⟨gN, 0, none⟩) ns.length cN) (preF p ns sg sl kd n ++ (isTo8 ns ⟨(kd : Int), (n : Int)⟩ ns.length ++ hasTo p ⟨(kd : Int), (n : Int)⟩ 0)) ns from by rw [hasTo_z, List.append_nil]; exact hW.out)
                           clear hW
                           go_wp2
                           go_loopw [15] (fun i wr => ∃ (x : Nat) (vA : Value), i = .int .i64 (x : Int) ∧ x ≤ p.wide.length ∧ Hid (OW w wr sg #[.slice (some ⟨bW, oW, none⟩) p.wide.length c, .slice A' p.code.length c'] gw (.slice (some ⟨bW, oW, none⟩) p.wide.length c) (.slice A' p.code.length c') vA (.slice (some ⟨gs, 0, none⟩) 4 4) (.slice (some ⟨gN, 0, none⟩) ns.length cN) (preF p ns sg sl kd n ++ (isTo8 ns ⟨(kd : Int), (n : Int)⟩ ns.length ++ hasTo p ⟨(kd : Int), (n : Int)⟩ x)) ns) ∧ Hid (OS w wr sg sl gm gs s' (stTo p ns sg sl kd (n + 1))) ∧ Hid (Blk wr gp 57 #[.int .i64 (kd : Int), .int .i64 (n : Int)])) (fun i _ => p.wide.length - (intOf i).toNat)
                           case atStart => exact ⟨0, _, rfl, Nat.zero_le _, HB, hS, hP⟩
                           case round =>
                             clear HB hS hP
                             obtain ⟨x, vA, rfl, hx, hW, hS, hP⟩ := hrel
                             have q0 := hW.out.b0.cell 0
                             have q1 := hW.out.b0.cell 1
                             have zq := hW.out.b0.lt
                             simp only [List.getElem?_toArray, List.getElem?_cons_succ, List.getElem?_cons_zero] at q0 q1
                             have hx0 : (0 : Int) ≤ (x : Int) := Int.natCast_nonneg _
                             by_cases hxl : x < p.wide.length
                             · have hx1 : (x : Int) < (p.wide.length : Int) := by omega
                               have HMX := HMY.out kd x _ hW.out.fr hkk hxl
                               cases hm : mayT p.wide (kd : Int) (x : Int) with
                               | false =>
                                 rw [hm] at HMX
                                 have HMH := Lib.hid HMX
                                 have HME := Lib.hid (hasTo_no (n := (n : Int)) hm)
                                 clear HMX hm
                                 go_wp2_with fail
                                 refine HMH.out.mono ?_
                                 rintro e w4 ⟨rfl, f4⟩
                                 have HN := Lib.hid (show OW w _ sg #[.slice (some ⟨bW, oW, none⟩) p.wide.length c, .slice A' p.code.length c'] gw (.slice (some ⟨bW, oW, none⟩) p.wide.length c) (.slice A' p.code.length c') vA (.slice (some ⟨gs, 0, none⟩) 4 4) (.slice (some ⟨gN, 0, none⟩) ns.length cN) (preF p ns sg sl kd n ++ (isTo8 ns ⟨(kd : Int), (n : Int)⟩ ns.length ++ hasTo p ⟨(kd : Int), (n : Int)⟩ (x + 1))) ns from by rw [HME.out]; exact hW.out.keep f4)
                                 have HNS := Lib.hid (hS.out.keep f4)
                                 have HNP := Lib.hid (hP.out.kept f4 (fun h => h))
                                 clear hW hS hP f4 HMH
                                 go_wp2
                                 go_roundw
                                 case rel => exact ⟨x + 1, vA, by go_num, by omega, HN, HNS, HNP⟩
                                 case measure => simp [intOf] <;> omega
                               | true =>
                                 rw [hm] at HMX
                                 have HMH := Lib.hid HMX
                                 have hpl : (preF p ns sg sl kd n ++ (isTo8 ns ⟨(kd : Int), (n : Int)⟩ ns.length ++ hasTo p ⟨(kd : Int), (n : Int)⟩ (x + 1))) = (preF p ns sg sl kd n ++ (isTo8 ns ⟨(kd : Int), (n : Int)⟩ ns.length ++ hasTo p ⟨(kd : Int), (n : Int)⟩ x)) ++ [hasF ⟨(kd : Int), (n : Int)⟩ (x : Int)] := by
                                   rw [hasTo_yes hm]; simp
                                 have hll := len_has (p := p) (ns := ns) (n := n) (x := x) HLEN.out hkk hnl hx
                                 clear HMX hm
                                 obtain ⟨ln, hln⟩ : ∃ ln, ln = (preF p ns sg sl kd n ++ (isTo8 ns ⟨(kd : Int), (n : Int)⟩ ns.length ++ hasTo p ⟨(kd : Int), (n : Int)⟩ (x + 1))) := ⟨_, rfl⟩
                                 rw [← hln] at hpl
                                 have HLN := Lib.hid hln
                                 clear hln
                                 generalize (preF p ns sg sl kd n ++ (isTo8 ns ⟨(kd : Int), (n : Int)⟩ ns.length ++ hasTo p ⟨(kd : Int), (n : Int)⟩ x)) = ll at *
                                 have HPL := Lib.hid hpl
                                 clear hpl
                                 obtain ⟨Av, cv, rfl, _, _⟩ := own_reads hW.out.oa
                                 go_wp2_with fail
                                 refine HMH.out.mono ?_
                                 rintro e w4 ⟨rfl, f4⟩
                                 have HW4 := hW.out.keep f4
                                 have HS4 := hS.out.keep f4
                                 have HP4 := hP.out.kept f4 (fun h => h)
                                 have g2 := HW4.bw.cell 2
                                 have zw4 := HW4.bw.lt
                                 have p0 := HP4.cell 0
                                 have p1 := HP4.cell 1
                                 have zp := HP4.lt
                                 simp only [List.getElem?_toArray, List.getElem?_cons_succ, List.getElem?_cons_zero] at g2 p0 p1
                                 have HXB := Lib.hid (HW4.keep ((Kept.refl _ w4).alloc (.cells #[.int .i64 (kd : Int), .int .i64 (n : Int), .bool true, .int .i64 (x : Int), .int .u32 0] 140)))
                                 have HSB := Lib.hid (HS4.keep ((Kept.refl _ w4).alloc (.cells #[.int .i64 (kd : Int), .int .i64 (n : Int), .bool true, .int .i64 (x : Int), .int .u32 0] 140)))
                                 have HPB := Lib.hid (HP4.kept ((Kept.refl (fun _ => False) w4).alloc (.cells #[.int .i64 (kd : Int), .int .i64 (n : Int), .bool true, .int .i64 (x : Int), .int .u32 0] 140)) (fun h => h))
                                 have hsz := Kept.size HW4.fr
                                 clear hW hS hP HW4 HS4 HP4 f4 HMH q0 q1 zq
                                 go_wp2_with (at_builtin
                                              refine wpList_app (base := w.heap.size) _ rfl slFacts (.tmp 131) (.tmp 135) rfl (.slice Av ll.length cv) ll.length _ rfl HXB.out.oa (fun _ => True) _ 1 1 [.int .i64 (kd : Int), .int .i64 (n : Int), .bool true, .int .i64 (x : Int), .int .u32 0] rfl (Reads.lit' (by simp) trivial rfl) ?_ ?_ ?_ ?_ ?_
                                              · simp [Value.oneCell']
                                              · omega
                                              · unfold maxLen; omega
                                              · simp; omega
                                              intro v1 w1 hown1 hk1 hat1
                                              obtain ⟨A1, c1, rfl, _⟩ := own_reads hown1
                                              have HN := Lib.hid (HXB.out.putA (w1 := w1) (l' := ln) (by rw [HPL.out, flatL_snoc, List.length_append]; exact hown1) hk1)
                                              have hb1 := HXB.out.bw.kept hk1 (own_blk_ne HXB.out.oa HXB.out.bw (by decide))
                                              have HNS := Lib.hid (HSB.out.putA (v1 := .slice A1 (ll.length + 1) c1) HXB.out hk1)
                                              have hbp := HPB.out.kept hk1 (own_blk_ne HXB.out.oa HPB.out (by decide))
                                              have HNP := Lib.hid (hbp.kept ((Kept.refl (fun b => b = gw) w1).setCell (p := ⟨gw, 2, none⟩) (fun _ => rfl) (.slice A1 (ll.length + 1) c1)) (fun e => hbp.ne_ hb1 (by decide) e))
                                              have z3 := hb1.cell 2
                                              have y3 := hb1.frozen 2
                                              have zz := hb1.lt
                                              simp only [List.getElem?_toArray, List.getElem?_cons_succ, List.getElem?_cons_zero] at z3
                                              clear hown1 hk1 hat1 hb1 hbp HXB HSB HPB g2 zw4 p0 p1 zp)
                                 go_roundw
                                 case rel => exact ⟨x + 1, .slice A1 (ll.length + 1) c1, by go_num, by omega, by rw [← HLN.out]; exact HN, HNS, HNP⟩
                                 case measure => simp [intOf] <;> omega
                             · obtain rfl : x = p.wide.length := by omega
                               have HN := Lib.hid (show OW w _ sg #[.slice (some ⟨bW, oW, none⟩) p.wide.length c, .slice A' p.code.length c'] gw (.slice (some ⟨bW, oW, none⟩) p.wide.length c) (.slice A' p.code.length c') vA (.slice (some ⟨gs, 0, none⟩) 4 4) (.slice (some ⟨gN, 0, none⟩) ns.length cN) (preF p ns sg sl kd (n + 1)) ns from by rw [preF_s hkk]; exact hW.out)
                               clear hW hP
                               go_wp2
                               go_roundw
                               case rel => exact ⟨n + 1, vA, s', by go_num, by omega, HN, hS⟩
                               case measure => simp [intOf] <;> omega
                 · obtain rfl : n = manyP sg sl kd := by omega
                   have HN := Lib.hid (show OW w _ sg #[.slice (some ⟨bW, oW, none⟩) p.wide.length c, .slice A' p.code.length c'] gw (.slice (some ⟨bW, oW, none⟩) p.wide.length c) (.slice A' p.code.length c') vA (.slice (some ⟨gs, 0, none⟩) 4 4) (.slice (some ⟨gN, 0, none⟩) ns.length cN) (preG p ns sg sl (kd + 1)) ns from by rw [← preG_next hkk]; exact hW.out)
                   have HSN := Lib.hid (show OS w _ sg sl gm gs s (stTo p ns sg sl (kd + 1) 0) from by rw [← (funext fun j => stTo_next : stTo p ns sg sl kd (manyP sg sl kd) = stTo p ns sg sl (kd + 1) 0)]; exact hS.out)
                   clear hW hS
                   go_wp2
                   go_roundw
                   case rel => exact ⟨kd + 1, vA, s, by go_num, by omega, by omega, HN, HSN⟩
                   case measure => simp [intOf] <;> omega
             · have h4 : kd = 4 := by omega
               have hki : ¬ (kd : Int) ≤ 3 := by omega
               have HFW := Lib.hid (show OW w _ sg #[.slice (some ⟨bW, oW, none⟩) p.wide.length c, .slice A' p.code.length c'] gw (.slice (some ⟨bW, oW, none⟩) p.wide.length c) (.slice A' p.code.length c') vA (.slice (some ⟨gs, 0, none⟩) 4 4) (.slice (some ⟨gN, 0, none⟩) ns.length cN) (allFs p ns sg sl) ns from by have h1 := hW.out; rw [h4] at h1; exact h1)
               have HFS := Lib.hid (show OS w _ sg sl gm gs s (stTo p ns sg sl 4 0) from by have h1 := hS.out; rw [h4] at h1; exact h1)
               clear hW hS h4
               obtain ⟨Av, cv, rfl, _, _⟩ := own_reads HFW.out.oa
               have HFIN := Lib.hid (fun w' (hk : Kept (fun b => b = w.heap.size + 1 + 1) wr w') => HFW.out.fin HFS.out HPG.out HRR.out hk)
               have g0 := HFW.out.bw.cell 0
               have g1 := HFW.out.bw.cell 1
               have g2 := HFW.out.bw.cell 2
               have g3 := HFW.out.bw.cell 3
               have g4 := HFW.out.bw.cell 4
               have zw := HFW.out.bw.lt
               have r0 := HFW.out.b2.cell 0
               have r1 := HFW.out.b2.cell 1
               have r2 := HFW.out.b2.cell 2
               have r3 := HFW.out.b2.cell 3
               have r4 := HFW.out.b2.cell 4
               have y0 := HFW.out.b2.frozen 0
               have y1 := HFW.out.b2.frozen 1
               have y2 := HFW.out.b2.frozen 2
               have y3 := HFW.out.b2.frozen 3
               have y4 := HFW.out.b2.frozen 4
               have zr := HFW.out.b2.lt
               simp only [List.getElem?_toArray, List.getElem?_cons_succ, List.getElem?_cons_zero] at g0 g1 g2 g3 g4 r0 r1 r2 r3 r4
               have HB9 := Lib.hid (by
                 have h1 := ((((HFW.out.b2.set_ 0 (.slice (some ⟨bW, oW, none⟩) p.wide.length c)).set_ 1 (.slice A' p.code.length c')).set_ 2 (.slice Av (allFs p ns sg sl).length cv)).set_ 3 (.slice (some ⟨gs, 0, none⟩) 4 4)).set_ 4 (.slice (some ⟨gN, 0, none⟩) ns.length cN)
                 simp only [List.setIfInBounds_toArray, List.set_cons_zero, List.set_cons_succ] at h1
                 exact h1)
               clear HFW HFS
               go_wp2
               (try simp only [Exit.inBlock, Exit.then])
               refine bodyPost_ret (results_cell rfl _ rfl (load_w8 HB9.out)) rfl ?_
               refine HDEF.out _ _ ⟨_, _, Av, cv, _, _, ns, rfl, (HFIN.out _ ?kk).1, HC.out, ⟨_, _, _, rfl⟩, (HFIN.out _ ?kk).2⟩
               exact (((((Kept.refl (fun b => b = w.heap.size + 1 + 1) wr).setCell (p := ⟨w.heap.size + 1 + 1, 0, none⟩) (fun _ => rfl) _).setCell (p := ⟨w.heap.size + 1 + 1, 1, none⟩) (fun _ => rfl) _).setCell (p := ⟨w.heap.size + 1 + 1, 2, none⟩) (fun _ => rfl) _).setCell (p := ⟨w.heap.size + 1 + 1, 3, none⟩) (fun _ => rfl) _).setCell (p := ⟨w.heap.size + 1 + 1, 4, none⟩) (fun _ => rfl) _
end Go.Proofs.Ytodmkjeankbieab

