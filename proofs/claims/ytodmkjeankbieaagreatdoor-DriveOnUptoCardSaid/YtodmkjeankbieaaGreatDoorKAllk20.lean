/- Texts of this claim, packed. -/
import Derived.Test.YtodmkjeankbieaaGreatDoorKAllk19
import Derived.Laws.BytesArg
set_option linter.all false
namespace Go.Proofs.YtodmkjeankbieaaGreatDoor
open Go.RowKit Go.Sort

structure DClo (w : World) (bp bl bv bm bs g B : Nat) (p : Pg) (A1 : Option Addr) (c1 : Nat) (A : Option Addr) (c : Nat) (sl : Int) (Al : Option Addr) (cl : Nat) (lv : List RwV) (s : Sto) : Prop where
 pb : Blk w bp 28 #[.slice A1 p.wide.length c1, .slice A p.code.length c]
 lb : Blk w bl 55 #[.int .i64 sl, .slice Al lv.length cl]
 vb : Blk w bv 94 #[.pointer (some ⟨bs, 0, none⟩)]
 mb : Blk w bm 73 #[.pointer (some ⟨g, 0, none⟩)]
 sb : Blk w bs 97 (stC s)
 rd : Reads w (fun b => b < B) 6 A p.code.length (p.code.flatMap In.cells)
 rl : Reads w (fun b => b < B) 8 Al lv.length (lv.flatMap RwV.cells)
 ro : ∀ x ∈ lv, x.ok w (fun b => b < B)
section
variable {w w' : World} {bp bl bv bm bs g B : Nat} {p : Pg} {A1 : Option Addr} {c1 : Nat} {A : Option Addr} {c : Nat} {sl : Int} {Al : Option Addr} {cl : Nat} {lv : List RwV} {s s' : Sto}
theorem DClo.fr_ (h : DClo w bp bl bv bm bs g B p A1 c1 A c sl Al cl lv s) (hk : Fr w w') : DClo w' bp bl bv bm bs g B p A1 c1 A c sl Al cl lv s :=
 ⟨h.pb.kept hk (fun h => h), h.lb.kept hk (fun h => h), h.vb.kept hk (fun h => h), h.mb.kept hk (fun h => h), h.sb.kept hk (fun h => h), h.rd.kept hk (fun _ _ h => h), h.rl.kept hk (fun _ _ h => h), fun x hx => (h.ro x hx).kept hk (fun _ _ h => h)⟩
theorem DClo.put (h : DClo w bp bl bv bm bs g B p A1 c1 A c sl Al cl lv s) (hk : Kept (fun b => b = bs) w w') (hb : Blk w' bs 97 (stC s')) (hbs : B ≤ bs) : DClo w' bp bl bv bm bs g B p A1 c1 A c sl Al cl lv s' :=
 ⟨h.pb.kept hk (h.pb.ne_ h.sb (by decide)), h.lb.kept hk (h.lb.ne_ h.sb (by decide)), h.vb.kept hk (h.vb.ne_ h.sb (by decide)), h.mb.kept hk (h.mb.ne_ h.sb (by decide)), hb,
   h.rd.kept hk (fun b hb e => by omega), h.rl.kept hk (fun b hb e => by omega), fun x hx => (h.ro x hx).kept hk (fun b hb e => by omega)⟩
theorem DClo.keep {r : Sh} {vo : Value} (h : DClo w bp bl bv bm bs g B p A1 c1 A c sl Al cl lv s) (hm : Mc w g B r vo) (hg : B ≤ g) (hk : Kept (McS g vo) w w') : DClo w' bp bl bv bm bs g B p A1 c1 A c sl Al cl lv s := by
 have hB : ∀ b, b < B → ¬ McS g vo b := fun b hb e => by
   rcases e with e | e
   · omega
   · have := (own_lt hm.ow e).1; omega
 exact ⟨hm.blk hk h.pb (by decide) (by decide), hm.blk hk h.lb (by decide) (by decide), hm.blk hk h.vb (by decide) (by decide), hm.blk hk h.mb (by decide) (by decide), hm.blk hk h.sb (by decide) (by decide),
   h.rd.kept hk hB, h.rl.kept hk hB, fun x hx => (h.ro x hx).kept hk hB⟩
theorem DClo.mc {r : Sh} {vo : Value} (h : DClo w bp bl bv bm bs g B p A1 c1 A c sl Al cl lv s) (hm : Mc w g B r vo) (hbs : B ≤ bs) (hk : Kept (fun b => b = bs) w w') : Mc w' g B r vo := by
 obtain ⟨_, _, hb, _⟩ := hm.ex
 exact hm.kept hk (fun e => hb.ne_ h.sb (by decide) e) (fun k hk e => own_blk_ne hm.ow h.sb (by decide) (e ▸ hk)) (fun b hb e => by omega)
end

set_option maxHeartbeats 4000000 in
set_option maxRecDepth 100000 in
theorem Done1_any (bp bl bv bm bs g B : Nat) (p : Pg) (A1 : Option Addr) (c1 : Nat) (A : Option Addr) (c : Nat) (sl : Int) (Al : Option Addr) (cl : Nat) (lv : List RwV) (s : Sto) (r : Sh) (vo : Value) (w : World)
   (hC : DClo w bp bl bv bm bs g B p A1 c1 A c sl Al cl lv s) (hS : StOk s) (hM : Mc w g B r vo) (hg : B ≤ g) (hbs : B ≤ bs) (hpc : r.pc < p.code.length) (hlv : lv.length = p.code.length) (hcl : p.code.length ≤ 40)
   (hk : known (inAt p.code r.pc).op = true) (hn : (inAt p.code r.pc).n < 4294967296) (hc0 : 0 ≤ (inAt p.code r.pc).c) (y : RwV) (hy : lv[r.pc]? = some y) (hh : RwHas y.r)
   (h5 : (inAt p.code r.pc).op = 5 → getS (movesS s y.r.before) y.r.a < 4294967296 ∧ getS (movesS s y.r.before) y.r.b < 4294967296)
   (hs : r.steps ≤ 100000) (ho : r.out.length ≤ 100000) (hi : ∀ n ∈ r.ins, 0 ≤ n ∧ n < 4294967296) :
   Calls Tryz.prog 35 #[.int .i64 (r.pc : Int), .pointer (some ⟨bp, 0, none⟩), .pointer (some ⟨bl, 0, none⟩), .pointer (some ⟨bv, 0, none⟩), .pointer (some ⟨bm, 0, none⟩)] w fun e w' => e = .returned (.tuple #[]) ∧
     (∃ vo', Mc w' g B (rawStep r (inAt p.code r.pc) (getS (movesS s y.r.before) y.r.a)) vo') ∧
     DClo w' bp bl bv bm bs g B p A1 c1 A c sl Al cl lv (movesS (if gvs (inAt p.code r.pc).op then putS (movesS s y.r.before) y.r.d (giveV (inAt p.code r.pc) (getS (movesS s y.r.before) y.r.a) (getS (movesS s y.r.before) y.r.b) (r.ins.headD 0)) else movesS s y.r.before) y.r.after) ∧ Kept (RunS bs g vo) w w' := by
 have hx : p.code[r.pc]? = some (inAt p.code r.pc) := by rw [inAt_get hpc]; exact List.getElem?_eq_getElem hpc
 obtain ⟨b, off, rfl, hbB, d0, d1, d2, d3, d4, d5⟩ := hC.rd.ins hx
 obtain ⟨b2, off2, rfl, hbB2, k0, k1, k2, k3, k4, k5, k6, k7⟩ := hC.rl.rw hy
 obtain ⟨hyd, hya, hyb, rbf, raf⟩ := hC.ro y (List.mem_of_getElem? hy)
 clear hx hy
 generalize inAt p.code r.pc = i at *
 obtain ⟨op, d, a, b1, cc, n⟩ := i
 obtain ⟨⟨⟨dk, dn⟩, ⟨ak, an⟩, ⟨bk, bn⟩, bef, aft⟩, vb, va⟩ := y
 simp only at *
 obtain ⟨hhd, hha, hhb, hhf, hht, hlf, hlt⟩ := hh
 simp only at hhd hha hhb hhf hht hlf hlt
 obtain ⟨Ab, cb, rfl, _⟩ := id rbf
 obtain ⟨Aa, ca, rfl, _⟩ := id raf
 have p0 := hC.pb.cell 1
 have l0 := hC.lb.cell 1
 have v0 := hC.vb.cell 0
 simp only [List.getElem?_toArray, List.getElem?_cons_succ, List.getElem?_cons_zero] at p0 l0 v0
 have zb := cell_lt d0
 have zb2 := cell_lt k0
 have zp := hC.pb.lt
 have zl := hC.lb.lt
 have zv := hC.vb.lt
 have hp0 : (0 : Int) ≤ (r.pc : Int) := Int.natCast_nonneg _
 have hp1 : (r.pc : Int) < (p.code.length : Int) := by omega
 have hp2 : (r.pc : Int) < (lv.length : Int) := by omega
 have HC := Lib.hid hC
 have HM := Lib.hid hM
 have H5 := Lib.hid h5
 have HK := Lib.hid hk
 have HI := Lib.hid hi
 have HS := Lib.hid hS
 have HBF := Lib.hid rbf
 have HAF := Lib.hid raf
 have HHD := Lib.hid hhd
 have HHA := Lib.hid hha
 have HHB := Lib.hid hhb
 have HHF := Lib.hid hhf
 have HHT := Lib.hid hht
 have HS1 := Lib.hid (hS.moves hhf)
 clear hC hM h5 hk hi hS rbf raf hhd hha hhb hhf hht hyd hya hyb
 have hga := HS1.out.get ⟨ak, an⟩
 have hgb := HS1.out.get ⟨bk, bn⟩
 have HD := Lib.hid (fun w (hm : Mc w g B r vo) => Do_any g B r vo ⟨op, d, a, b1, cc, n⟩ (getS (movesS s bef) ⟨ak, an⟩) (getS (movesS s bef) ⟨bk, bn⟩) w hm hg HK.out hn hga hgb H5.out hs ho (by omega) (fun _ => hc0) HI.out)
 have HG := Lib.hid (fun w => Gives_any ⟨op, d, a, b1, cc, n⟩ w HK.out)
 unfold In.val at HD HG
 simp only at HD HG
 obtain ⟨pc, ins, out, steps, state⟩ := r
 simp only at *
 have hxr := head_num HI.out
 generalize ins.headD 0 = xh at *
 generalize hs1 : movesS s bef = s1 at *
 have H1 := Lib.hid hs1
 clear hs1
 go_enter Tryz.func35, Tryz.ntmps35
 go_upto_region 0 with (fail)
 go_cut [6, 7] from 9 to 18 (fun p6 p7 wx => ∃ gi gr : Nat, p6 = .pointer (some ⟨gi, 0, none⟩) ∧ p7 = .pointer (some ⟨gr, 0, none⟩) ∧ Hid (Blk wx gi 45 #[.int .i64 op, .int .i64 d, .int .i64 a, .int .i64 b1, .int .i64 cc, .int .u32 n]) ∧
   Hid (Blk wx gr 102 #[.int .i64 dk, .int .i64 dn, .int .i64 ak, .int .i64 an, .int .i64 bk, .int .i64 bn, .slice Ab bef.length cb, .slice Aa aft.length ca]) ∧ Hid (Fr w wx))
 case first =>
   go_region
   · go_wp2
     go_meet
     refine ⟨_, _, rfl, rfl, ?_, ?_, (((Kept.refl _ w).alloc _).alloc _).drew⟩
     · show Blk ((w.alloc (.cells #[.int .i64 op, .int .i64 d, .int .i64 a, .int .i64 b1, .int .i64 cc, .int .u32 n] 45)).alloc (.cells #[.int .i64 dk, .int .i64 dn, .int .i64 ak, .int .i64 an, .int .i64 bk, .int .i64 bn, .slice Ab bef.length cb, .slice Aa aft.length ca] 102)) _ _ _
       exact (Blk.new w _ _).alloc _
     · have := Blk.new (w.alloc (.cells #[.int .i64 op, .int .i64 d, .int .i64 a, .int .i64 b1, .int .i64 cc, .int .u32 n] 45)) 102 #[.int .i64 dk, .int .i64 dn, .int .i64 ak, .int .i64 an, .int .i64 bk, .int .i64 bn, .slice Ab bef.length cb, .slice Aa aft.length ca]
       show Blk ((w.alloc (.cells #[.int .i64 op, .int .i64 d, .int .i64 a, .int .i64 b1, .int .i64 cc, .int .u32 n] 45)).alloc (.cells #[.int .i64 dk, .int .i64 dn, .int .i64 ak, .int .i64 an, .int .i64 bk, .int .i64 bn, .slice Ab bef.length cb, .slice Aa aft.length ca] 102)) _ _ _
       simpa using this
   · go_wp2
     go_meet
     refine ⟨_, _, rfl, rfl, ?_, ?_, (((Kept.refl _ w).alloc _).alloc _).drew⟩
     · have := Blk.new (w.alloc (.cells #[.int .i64 dk, .int .i64 dn, .int .i64 ak, .int .i64 an, .int .i64 bk, .int .i64 bn, .slice Ab bef.length cb, .slice Aa aft.length ca] 102)) 45 #[.int .i64 op, .int .i64 d, .int .i64 a, .int .i64 b1, .int .i64 cc, .int .u32 n]
       show Blk ((w.alloc (.cells #[.int .i64 dk, .int .i64 dn, .int .i64 ak, .int .i64 an, .int .i64 bk, .int .i64 bn, .slice Ab bef.length cb, .slice Aa aft.length ca] 102)).alloc (.cells #[.int .i64 op, .int .i64 d, .int .i64 a, .int .i64 b1, .int .i64 cc, .int .u32 n] 45)) _ _ _
       simpa using this
     · show Blk ((w.alloc (.cells #[.int .i64 dk, .int .i64 dn, .int .i64 ak, .int .i64 an, .int .i64 bk, .int .i64 bn, .slice Ab bef.length cb, .slice Aa aft.length ca] 102)).alloc (.cells #[.int .i64 op, .int .i64 d, .int .i64 a, .int .i64 b1, .int .i64 cc, .int .u32 n] 45)) _ _ _
       exact (Blk.new w _ _).alloc _
 case rest =>
   obtain ⟨gi, gr, rfl, rfl, HBi, HBr, HF⟩ := hcut
   have HC1 := Lib.hid (HC.out.fr_ HF.out)
   have HM1 := Lib.hid (HM.out.fr_ HF.out)
   have HBF1 := Lib.hid (HBF.out.kept HF.out (fun _ _ h => h))
   have HAF1 := Lib.hid (HAF.out.kept HF.out (fun _ _ h => h))
   have v0 := HC1.out.vb.cell 0
   have r6 := HBr.out.cell 6
   simp only [List.getElem?_toArray, List.getElem?_cons_succ, List.getElem?_cons_zero] at v0 r6
   have zv := HC1.out.vb.lt
   have zr := HBr.out.lt
   go_wp2_with fail
   refine (dMoves_any (fun b => b < B) bs s _ bef wc HC1.out.sb HS.out HBF1.out (fun b hb e => by omega) (by omega) HHF.out).mono ?_
   rintro e w1 ⟨rfl, hb1, k1, _⟩
   rw [H1.out] at hb1
   have HC2 := Lib.hid (HC1.out.put k1 hb1 hbs)
   have HM2 := Lib.hid (HC1.out.mc HM1.out hbs k1)
   have HBi2 := Lib.hid (HBi.out.kept k1 (HBi.out.ne_ HC1.out.sb (by decide)))
   have HBr2 := Lib.hid (HBr.out.kept k1 (HBr.out.ne_ HC1.out.sb (by decide)))
   have HAF2 := Lib.hid (HAF1.out.kept k1 (fun b hb e => by omega))
   have HKp : Hid (Kept (RunS bs g vo) w w1) := (HF.out.mono (fun i _ h => h.elim)).trans (k1.mono (fun i _ h => Or.inl h))
   clear v0 r6 zv zr HC HM HC1 HM1 HBi HBr HBF HBF1 HAF HAF1 HF k1 hb1 HS HHF
   have m0 := HC2.out.mb.cell 0
   have v0 := HC2.out.vb.cell 0
   have e0 := HBi2.out.cell 0
   have e1 := HBi2.out.cell 1
   have e2 := HBi2.out.cell 2
   have e3 := HBi2.out.cell 3
   have e4 := HBi2.out.cell 4
   have e5 := HBi2.out.cell 5
   have r2 := HBr2.out.cell 2
   have r3 := HBr2.out.cell 3
   have r4 := HBr2.out.cell 4
   have r5 := HBr2.out.cell 5
   simp only [List.getElem?_toArray, List.getElem?_cons_succ, List.getElem?_cons_zero] at m0 v0 e0 e1 e2 e3 e4 e5 r2 r3 r4 r5
   have HGT := Lib.hid (fun k n w2 (hf : Fr w1 w2) (hh : Has ⟨k, n⟩) => (dGet_any bs s1 ⟨k, n⟩ w2 (HC2.out.sb.kept hf (fun h => h)) HS1.out hh).mono (fun e w' (h : _ ∧ Fr w2 w') => And.intro h.1 (hf.trans h.2)))
   unfold PlaceV.val at HGT
   simp only at HGT
   have HDW := Lib.hid (fun w2 (hf : Fr w1 w2) => HD.out w2 (HM2.out.fr_ hf))
   have HCells : Hid (∀ w2, Fr w1 w2 → _) := fun w2 (hf : Fr w1 w2) => And.intro ((HC2.out.mb.kept hf (fun h => h)).cell 0) (And.intro ((HC2.out.vb.kept hf (fun h => h)).cell 0) (And.intro (HBi2.out.kept hf (fun h => h)) (HBr2.out.kept hf (fun h => h))))
   go_wp2
   go_region_held3 (fun w' => w'.cell? ⟨bm, 0, none⟩ = some (.pointer (some ⟨g, 0, none⟩)) ∧ w'.cell? ⟨bv, 0, none⟩ = some (.pointer (some ⟨bs, 0, none⟩)) ∧ w'.cell? ⟨gi, 0, none⟩ = some (.int .i64 op) ∧ w'.cell? ⟨gi, 1, none⟩ = some (.int .i64 d) ∧ w'.cell? ⟨gi, 2, none⟩ = some (.int .i64 a) ∧
       w'.cell? ⟨gi, 3, none⟩ = some (.int .i64 b1) ∧ w'.cell? ⟨gi, 4, none⟩ = some (.int .i64 cc) ∧ w'.cell? ⟨gi, 5, none⟩ = some (.int .u32 n) ∧
       w'.cell? ⟨gr, 2, none⟩ = some (.int .i64 ak) ∧ w'.cell? ⟨gr, 3, none⟩ = some (.int .i64 an) ∧ w'.cell? ⟨gr, 4, none⟩ = some (.int .i64 bk) ∧ w'.cell? ⟨gr, 5, none⟩ = some (.int .i64 bn))
     (first
       | go_keep
       | (go_split_ands
          have hc := HCells.out _ fa
          exact ⟨hc.1, hc.2.1, hc.2.2.1.cell 0, hc.2.2.1.cell 1, hc.2.2.1.cell 2, hc.2.2.1.cell 3, hc.2.2.1.cell 4, hc.2.2.1.cell 5, hc.2.2.2.cell 2, hc.2.2.2.cell 3, hc.2.2.2.cell 4, hc.2.2.2.cell 5⟩)
       | (go_split_ands
          have hC3 := HC2.out.keep HM2.out hg hk3
          have hI3 := HM2.out.blk hk3 HBi2.out (by decide) (by decide)
          have hR3 := HM2.out.blk hk3 HBr2.out (by decide) (by decide)
          exact ⟨hC3.mb.cell 0, hC3.vb.cell 0, hI3.cell 0, hI3.cell 1, hI3.cell 2, hI3.cell 3, hI3.cell 4, hI3.cell 5, hR3.cell 2, hR3.cell 3, hR3.cell 4, hR3.cell 5⟩))
     (first
       | (go_at_call 37; refine (HGT.out _ _ _ (by first | exact (Kept.refl _ w1).drew | exact fa) (by first | exact HHA.out | exact HHB.out)).mono ?_; rintro e wa ⟨rfl, fa⟩)
       | (go_at_call 26; refine (HDW.out _ fa).mono ?_; rintro e w3 ⟨v, rfl, hv, ⟨vo3, hm3⟩, hk9⟩; have hk3 : Kept (McS g vo) w1 w3 := (fa.mono (fun i _ h => h.elim)).trans hk9))
   all_goals
     rename_i hHeld
     obtain ⟨-, -, e0, e1, e2, e3, e4, e5, -, -, -, -⟩ := hHeld
     have hBB : ∀ b, b < B → ¬ McS g vo b := fun b hb e => by
       rcases e with e | e
       · omega
       · have := (own_lt HM2.out.ow e).1; omega
     have HC3 := Lib.hid (HC2.out.keep HM2.out hg hk3)
     have HI3 := Lib.hid (HM2.out.blk hk3 HBi2.out (by decide) (by decide))
     have HR3 := Lib.hid (HM2.out.blk hk3 HBr2.out (by decide) (by decide))
     have HAF3 := Lib.hid (HAF2.out.kept hk3 hBB)
     have HM3 := Lib.hid hm3
     have HV := Lib.hid hv
     have HK3 := Lib.hid (HKp.out.trans (hk3.mono (fun i _ h => (Or.inr h : RunS bs g vo i))))
     have z3 := HI3.out.lt
     clear hm3 hv hk3 hk9 fa hBB HDW HCells HGT HC2 HM2 HBi2 HBr2 HAF2 HKp HD m0 v0 r2 r3 r4 r5
     have HVR := Lib.hid (fun hgv => giveV_num (i := ⟨op, d, a, b1, cc, n⟩) HK.out hgv hga hgb H5.out hn hxr)
     cases hgv : gvs op with
     | false =>
       rw [hgv] at HG
       clear HV HVR
       go_wp2_with fail
       refine (HG.out _).mono ?_
       rintro e w4 ⟨rfl, f4⟩
       have HC4 := Lib.hid (HC3.out.fr_ f4)
       have HM4 := Lib.hid (HM3.out.fr_ f4)
       have HR4 := Lib.hid (HR3.out.kept f4 (fun h => h))
       have HAF4 := Lib.hid (HAF3.out.kept f4 (fun _ _ h => h))
       have HK4 := Lib.hid (HK3.out.trans (f4.mono (fun i _ h => h.elim)))
       have v0 := HC4.out.vb.cell 0
       have r7 := HR4.out.cell 7
       simp only [List.getElem?_toArray, List.getElem?_cons_succ, List.getElem?_cons_zero] at v0 r7
       clear f4 HC3 HM3 HI3 HR3 HAF3 HK3 e0 e1 e2 e3 e4 e5 z3
       go_wp2_with fail
       refine (dMoves_any (fun b => b < B) bs s1 _ aft w4 HC4.out.sb HS1.out HAF4.out (fun b hb e => by omega) (by omega) HHT.out).mono ?_
       rintro e w5 ⟨rfl, hb5, k5, _⟩
       have HN := Lib.hid (And.intro (show (∃ vo', Mc w5 g B _ vo') from ⟨vo3, HC4.out.mc HM4.out hbs k5⟩) (And.intro (HC4.out.put k5 hb5 hbs) (HK4.out.trans (k5.mono (fun i _ h => (Or.inl h : RunS bs g vo i))))))
       clear hb5 k5 HC4 HM4 HR4 HAF4 HK4 v0 r7
       go_wp2
       all_goals
         go_end0
         exact ⟨rfl, HN.out.1, HN.out.2.1, HN.out.2.2⟩
     | true =>
       have hV := HV.out hgv
       have hVR := HVR.out hgv
       rw [hgv] at HG
       rw [← hV] at hVR
       have HVE := Lib.hid hV
       clear HV HVR hV
       go_wp2_with fail
       refine (HG.out _).mono ?_
       rintro e w4 ⟨rfl, f4⟩
       have HC4 := Lib.hid (HC3.out.fr_ f4)
       have HM4 := Lib.hid (HM3.out.fr_ f4)
       have HR4 := Lib.hid (HR3.out.kept f4 (fun h => h))
       have HAF4 := Lib.hid (HAF3.out.kept f4 (fun _ _ h => h))
       have HK4 := Lib.hid (HK3.out.trans (f4.mono (fun i _ h => h.elim)))
       have v0 := HC4.out.vb.cell 0
       have r0 := HR4.out.cell 0
       have r1 := HR4.out.cell 1
       simp only [List.getElem?_toArray, List.getElem?_cons_succ, List.getElem?_cons_zero] at v0 r0 r1
       clear f4 HC3 HM3 HI3 HR3 HAF3 HK3 e0 e1 e2 e3 e4 e5 z3
       go_wp2_with fail
       refine (dPut_any bs s1 ⟨dk, dn⟩ v w4 HC4.out.sb HHD.out hVR).mono ?_
       rintro e w5 ⟨rfl, hb5, k5⟩
       have HC5 := Lib.hid (HC4.out.put k5 hb5 hbs)
       have HM5 := Lib.hid (HC4.out.mc HM4.out hbs k5)
       have HR5 := Lib.hid (HR4.out.kept k5 (HR4.out.ne_ HC4.out.sb (by decide)))
       have HAF5 := Lib.hid (HAF4.out.kept k5 (fun b hb e => by omega))
       have HK5 := Lib.hid (HK4.out.trans (k5.mono (fun i _ h => (Or.inl h : RunS bs g vo i))))
       have v0 := HC5.out.vb.cell 0
       have r7 := HR5.out.cell 7
       simp only [List.getElem?_toArray, List.getElem?_cons_succ, List.getElem?_cons_zero] at v0 r7
       clear hb5 k5 HC4 HM4 HR4 HAF4 HK4
       go_wp2_with fail
       refine (dMoves_any (fun b => b < B) bs (putS s1 ⟨dk, dn⟩ v) _ aft w5 HC5.out.sb (HS1.out.put _ hVR) HAF5.out (fun b hb e => by omega) (by omega) HHT.out).mono ?_
       rintro e w6 ⟨rfl, hb6, k6, _⟩
       have HN := Lib.hid (And.intro (show (∃ vo', Mc w6 g B _ vo') from ⟨vo3, HC5.out.mc HM5.out hbs k6⟩) (And.intro (HC5.out.put k6 hb6 hbs) (HK5.out.trans (k6.mono (fun i _ h => (Or.inl h : RunS bs g vo i))))))
       clear hb6 k6 HC5 HM5 HR5 HAF5 HK5 v0 r7
       go_wp2
       go_end0
       refine ⟨rfl, HN.out.1, ?_, HN.out.2.2⟩
       rw [← HVE.out]
       exact HN.out.2.1
end Go.Proofs.YtodmkjeankbieaaGreatDoor


namespace Go.Proofs.YtodmkjeankbieaaGreatDoor
open Go.RowKit Go.Sort

theorem RdMv.old {w : World} {R : Nat → Prop} {v : Value} {l : List Mv} (h : RdMv w R v l) : RdMv w (fun b => b < w.heap.size) v l :=
 let ⟨A, c, e, hl, hr, ho⟩ := h
 ⟨A, c, e, hl, hr.old (by decide), ho⟩
theorem RwV.ok.old {w : World} {R : Nat → Prop} {x : RwV} (h : x.ok w R) : x.ok w (fun b => b < w.heap.size) := ⟨h.1, h.2.1, h.2.2.1, h.2.2.2.1.old, h.2.2.2.2.old⟩

def dWrong (p : Pg) (sg : Int) (l : Pd) (n : Nat) (steps : Int) : Int := if mayL p sg l then wrongV p n steps else 2
theorem dWrong_0 {p : Pg} {sg : Int} {l : Pd} {n : Nat} {steps : Int} (h : dWrong p sg l n steps = 0) : mayL p sg l = true ∧ wrongV p n steps = 0 := by
 unfold dWrong at h
 cases hm : mayL p sg l with
 | false => rw [hm] at h; simp at h
 | true => rw [hm] at h; exact ⟨rfl, h⟩

structure QD (w W : World) (c0 c1 c2 : Array Value) : Prop where
 b0 : Blk W w.heap.size 28 c0
 b1 : Blk W (w.heap.size + 1) 52 c1
 b2 : Blk W (w.heap.size + 2) 55 c2
 b3 : Blk W (w.heap.size + 3) 47 #[.int .i64 0, .slice none 0 0, .int .i64 0]
 fr : Fr w W
theorem QD.keep {w W W2 : World} {c0 c1 c2 : Array Value} (h : QD w W c0 c1 c2) (hk : Fr W W2) : QD w W2 c0 c1 c2 :=
 ⟨h.b0.kept hk (fun h => h), h.b1.kept hk (fun h => h), h.b2.kept hk (fun h => h), h.b3.kept hk (fun h => h), h.fr.trans hk⟩
theorem QD.start (w : World) (c0 c1 c2 : Array Value) : QD w ((((w.alloc (.cells c0 28)).alloc (.cells c1 52)).alloc (.cells c2 55)).alloc (.cells #[.int .i64 0, .slice none 0 0, .int .i64 0] 47)) c0 c1 c2 := by
 refine ⟨(((Blk.new w _ _).alloc _).alloc _).alloc _, ?_, ?_, ?_, ((((Kept.refl _ w).alloc _).alloc _).alloc _).alloc _⟩
 · have := ((Blk.new (w.alloc (.cells c0 28)) 52 c1).alloc (.cells c2 55)).alloc (.cells #[.int .i64 0, .slice none 0 0, .int .i64 0] 47)
   simpa using this
 · have := (Blk.new ((w.alloc (.cells c0 28)).alloc (.cells c1 52)) 55 c2).alloc (.cells #[.int .i64 0, .slice none 0 0, .int .i64 0] 47)
   simpa using this
 · have := Blk.new (((w.alloc (.cells c0 28)).alloc (.cells c1 52)).alloc (.cells c2 55)) 47 #[.int .i64 0, .slice none 0 0, .int .i64 0]
   simpa using this

def doneZ : Array Value := #[.int .u32 0, .int .u32 0, .int .u32 0, .int .u32 0, .int .u32 0, .int .u32 0, .int .u32 0, .int .u32 0, .int .u32 0, .int .u32 0, .int .u32 0, .int .u32 0, .int .u32 0, .int .u32 0, .int .u32 0, .int .u32 0,
 .int .u64 0, .int .u64 0, .int .u64 0, .int .u64 0, .int .u64 0, .int .u64 0, .int .u64 0, .int .u64 0, .int .u64 0, .int .u64 0, .int .u64 0, .int .u64 0]
theorem doneZ_st : doneZ = stC ⟨fun _ => 0, fun _ => 0⟩ := rfl
def doneW (w2 : World) (ins : Value) : World :=
 (((w2.alloc (.cells doneZ 97)).alloc (.cells #[.pointer (some ⟨w2.heap.size, 0, none⟩)] 94)).alloc
   (.cells #[.int .i64 0, .slice none 0 0, .int .i64 0, .int .i64 0, ins] 75)).alloc (.cells #[.pointer (some ⟨w2.heap.size + 2, 0, none⟩)] 73)

def DoneI (w0 : World) (br bp bl bv bm bs g : Nat) (p : Pg) (A1 : Option Addr) (c1 : Nat) (A : Option Addr) (c : Nat) (sl : Int) (Al : Option Addr) (cl : Nat) (lv : List RwV) (w : World) (x : Sh × Sto) : Prop :=
 (∃ vo, Mc w g w0.heap.size (unF x.1) vo) ∧ DClo w bp bl bv bm bs g w0.heap.size p A1 c1 A c sl Al cl lv x.2 ∧ StOk x.2 ∧ Fr w0 w ∧ Blk w br 47 #[.int .i64 0, .slice none 0 0, .int .i64 0]

theorem DoneI.step {w0 w : World} {br bp bl bv bm bs g n : Nat} {p : Pg} {A1 : Option Addr} {c1 : Nat} {A : Option Addr} {c : Nat} {sl : Int} {Al : Option Addr} {cl : Nat} {lv : List RwV} {sg : Int} {l : Pd} {ins : List Int} {x : Sh × Sto}
   (h : DoneI w0 br bp bl bv bm bs g p A1 c1 A c sl Al cl lv w x) (hg : w0.heap.size ≤ g) (hbs : w0.heap.size ≤ bs) (hm : mayL p sg l = true) (hrows : l.rows = lv.map (·.r)) (ho : ∀ m ∈ p.code, m.ok) (hi : ∀ n ∈ ins, 0 ≤ n ∧ n < 4294967296)
   (hn : n ≤ 100000) (hat : At p.code (mPlaces p l.rows) (sh0 ins, ⟨fun _ => 0, fun _ => 0⟩) n x) (h0 : x.1.state = 0) :
   Calls Tryz.prog 35 (#[.int .i64 (x.1.pc : Int)] ++ #[.pointer (some ⟨bp, 0, none⟩), .pointer (some ⟨bl, 0, none⟩), .pointer (some ⟨bv, 0, none⟩), .pointer (some ⟨bm, 0, none⟩)]) w fun e w' => e = .returned (.tuple #[]) ∧
     DoneI w0 br bp bl bv bm bs g p A1 c1 A c sl Al cl lv w' (mStep p.code (mPlaces p l.rows) x) := by
 obtain ⟨⟨vo, hM⟩, hC, hS, hF, hR⟩ := h
 obtain ⟨hmb, htg, hs0, hs1, hlen⟩ := mayL_facts hm
 obtain ⟨l1, l2, l3, l4⟩ := mayB_len hmb
 have hpc := hat.st0 h0
 have hin : ∀ y ∈ x.1.ins, 0 ≤ y ∧ y < 4294967296 := fun y hy => hi y (hat.ins y hy)
 have hout := hat.out rfl
 have hle := hat.le
 have hlv : lv.length = p.code.length := by rw [← hlen, hrows, List.length_map]
 have hy : lv[x.1.pc]? = some (lv[x.1.pc]'(by omega)) := List.getElem?_eq_getElem _
 have hyo := hC.ro _ (List.mem_of_getElem? hy)
 have hye : rwAt l.rows x.1.pc = (lv[x.1.pc]'(by omega)).r := by rw [rwAt_get (by omega)]; simp [hrows]
 generalize lv[x.1.pc]'(by omega) = y at *
 have hI := mayB_ins hmb (inAt_mem hpc)
 obtain ⟨_, _, _, hc0⟩ := ins_fields hI l1
 have hok := insOk hI
 have hrb := mayL_row hm hpc
 rw [hye] at hrb
 have h16 : sg ≤ 16 := by unfold tgB at htg; simp at htg; omega
 have hbn : ∀ m ∈ y.r.before, m.n < 4294967296 := fun m hm => by obtain ⟨_, _, _, ⟨_, _, _, _, _, ho⟩, _⟩ := hyo; exact (ho m hm).2.2
 have han : ∀ m ∈ y.r.after, m.n < 4294967296 := fun m hm => by obtain ⟨_, _, _, _, ⟨_, _, _, _, _, ho⟩⟩ := hyo; exact (ho m hm).2.2
 have hh := has_rw hrb hbn han h16 hs1
 have hS1 := hS.moves hh.bef
 have h5 := fun h => pair_lt hS1 hrb hok h
 have hn32 := (ho _ (inAt_mem hpc)).2.2.2.2.2
 refine (Done1_any bp bl bv bm bs g w0.heap.size p A1 c1 A c sl Al cl lv x.2 (unF x.1) vo w hC hS hM hg hbs hpc hlv l4 hok.kn hn32 hc0 y hy hh h5 (by show x.1.steps ≤ 100000; omega) (by show x.1.out.length ≤ 100000; omega) hin).mono ?_
 rintro e w' ⟨rfl, ⟨vo', hM'⟩, hC', hk⟩
 have e2 : (mStep p.code (mPlaces p l.rows) x).2 = movesS (if gvs (inAt p.code x.1.pc).op then putS (movesS x.2 y.r.before) y.r.d (giveV (inAt p.code x.1.pc) (getS (movesS x.2 y.r.before) y.r.a) (getS (movesS x.2 y.r.before) y.r.b) (x.1.ins.headD 0)) else movesS x.2 y.r.before) y.r.after := by
   rw [← hye]; rfl
 refine ⟨rfl, ⟨vo', ?_⟩, ?_, ?_, ?_, ?_⟩
 · have := raw_step (code := p.code) h0 (getS (movesS x.2 y.r.before) y.r.a)
   show Mc w' g w0.heap.size (unF (shStep p.code x.1 (getS (movesS x.2 (rwAt l.rows x.1.pc).before) (rwAt l.rows x.1.pc).a))) vo'
   rw [hye, ← this]
   exact hM'
 · rw [e2]; exact hC'
 · rw [e2]
   refine StOk.moves ?_ hh.aft
   split
   · rename_i hgv
     exact hS1.put _ (giveV_num hok.kn hgv (hS1.get _) (hS1.get _) h5 hn32 (head_num hin))
   · exact hS1
 · refine hF.then hk fun i hi hs => ?_
   rcases hs with e | e | e
   · omega
   · omega
   · have := (own_lt hM.ow e).1; omega
 · refine hR.kept hk ?_
   obtain ⟨_, _, hg, _⟩ := hM.ex
   rintro (e | e | e)
   · exact hR.ne_ hC.sb (by decide) e
   · exact hR.ne_ hg (by decide) e
   · exact own_blk_ne hM.ow hR (by decide) e

set_option maxHeartbeats 4000000 in
set_option maxRecDepth 100000 in
theorem done_any (R R' : Nat → Prop) (v vl : Value) (p : Pg) (sg : Int) (l : Pd) (Ai : Option Addr) (ins : List Int) (ci : Nat) (steps : Int) (w : World) (h : RdPg w R v p) (hL : RdPd w R' vl l) (hl : ins.length ≤ ci) (hc : ci ≤ maxLen) (hr : Reads w R 1 Ai ins.length (u32s ins)) (hi : ∀ n ∈ ins, 0 ≤ n ∧ n < 4294967296) :
   Calls Tryz.prog 15 #[v, tgV sg, vl, .slice Ai ins.length ci, .int .i64 steps] w (RunPost w (dWrong p sg l ins.length steps) (doneV p l.rows ins steps.toNat)) := by
 have H := Lib.hid h
 have HL := Lib.hid hL
 obtain ⟨vw, vc, rfl, ⟨A1, c1, rfl, hl1, hr1⟩, ⟨A, c, rfl, hl2, hr2, ho2⟩⟩ := h
 obtain ⟨vr, lv, rfl, hsl, ⟨Al, cl, rfl, hlr, hrr, hor⟩, hrows⟩ := hL
 have HC := Lib.hid (hr2.old (by decide))
 have HRL := Lib.hid (hrr.old (by decide))
 have HRO := Lib.hid (fun x hx => (hor x hx).old)
 have HROWS := Lib.hid hrows
 have HO := Lib.hid ho2
 have HINS := Lib.hid (hr.old (by decide))
 have HI := Lib.hid hi
 unfold maxLen at hl1 hl2 hc hlr
 clear hr1 hr2 ho2 hr hi hrr hor hrows hsl
 have HW := Lib.hid (fun w2 (hf : Fr w w2) => Wrong_any R _ p Ai ins.length ci steps w2 (H.out.kept hf (fun _ _ h => h)) (by omega))
 have HMy := Lib.hid (fun w2 (hf : Fr w w2) => placeMay_any R R' _ _ p sg l w2 (H.out.kept hf (fun _ _ h => h)) (HL.out.kept hf (fun _ _ h => h)))
 have HQ := Lib.hid (QD.start w #[.slice A1 p.wide.length c1, .slice A p.code.length c] #[.int .i64 sg] #[.int .i64 l.slots, .slice Al lv.length cl])
 unfold tgV at HMy ⊢
 go_enter Tryz.func15, Tryz.ntmps15
 go_wp2_with fail
 refine (HMy.out _ HQ.out.fr).mono ?_
 rintro e w2 ⟨rfl, f2⟩
 have HQ2 := Lib.hid (HQ.out.keep f2)
 clear HQ f2 HMy
 have q0 := HQ2.out.b0.cell 0
 have q1 := HQ2.out.b0.cell 1
 have x0 := HQ2.out.b3.cell 0
 have x1 := HQ2.out.b3.cell 1
 have x2 := HQ2.out.b3.cell 2
 have y0 := HQ2.out.b3.frozen 0
 have y1 := HQ2.out.b3.frozen 1
 have y2 := HQ2.out.b3.frozen 2
 simp only [List.getElem?_toArray, List.getElem?_cons_succ, List.getElem?_cons_zero] at q0 q1 x0 x1 x2
 have z0 := HQ2.out.b0.lt
 have z3 := HQ2.out.b3.lt
 cases hm : mayL p sg l with
 | false =>
   have hW : dWrong p sg l ins.length steps = 2 := by unfold dWrong; rw [hm]; rfl
   have HWE := Lib.hid hW
   clear hm hW
   go_wp2
   refine bodyPost_ret (v := .tuple #[.agg #[.int .i64 0, .slice none 0 0, .int .i64 0], .int .i64 2]) ?_ rfl ?_
   · simp [results, Tryz.results15, go_sem, x0, x1, x2]
   · show RunPost _ _ _ _ _
     rw [HWE.out]
     exact ⟨((HQ2.out.fr.setCell (fun e => by simp only at e; omega) _).setCell (fun e => by simp only at e; omega) _).setCell (fun e => by simp only at e; omega) _, Or.inl ⟨by decide, rfl⟩⟩
 | true =>
   have hWE : dWrong p sg l ins.length steps = wrongV p ins.length steps := by unfold dWrong; rw [hm]; rfl
   have HWE := Lib.hid hWE
   have HM := Lib.hid hm
   clear hm hWE
   go_wp2_with fail
   refine (HW.out _ HQ2.out.fr).mono ?_
   rintro e w3 ⟨rfl, f3⟩
   have HQ3 := Lib.hid (HQ2.out.keep f3)
   clear HQ2 f3 HW q0 q1 x0 x1 x2 y0 y1 y2 z0 z3
   have q0 := HQ3.out.b0.cell 0
   have q1 := HQ3.out.b0.cell 1
   have x0 := HQ3.out.b3.cell 0
   have x1 := HQ3.out.b3.cell 1
   have x2 := HQ3.out.b3.cell 2
   have y0 := HQ3.out.b3.frozen 0
   have y1 := HQ3.out.b3.frozen 1
   have y2 := HQ3.out.b3.frozen 2
   simp only [List.getElem?_toArray, List.getElem?_cons_succ, List.getElem?_cons_zero] at q0 q1 x0 x1 x2
   have z0 := HQ3.out.b0.lt
   have z3 := HQ3.out.b3.lt
   by_cases hw : wrongV p ins.length steps = 0
   · have HZ := Lib.hid hw
     obtain ⟨_, hn40, hs0, hs1⟩ := wrong_0 hw
     obtain ⟨hw1, hw2, hc1, hc2⟩ := mayB_len (mayL_facts HM.out).1
     rw [hw]
     obtain ⟨n, rfl⟩ : ∃ n : Nat, steps = (n : Int) := ⟨steps.toNat, by omega⟩
     have hB0 : Blk (doneW w3 (.slice Ai ins.length ci)) w.heap.size 28 #[.slice A1 p.wide.length c1, .slice A p.code.length c] := (((HQ3.out.b0.alloc _).alloc _).alloc _).alloc _
     have hB2 : Blk (doneW w3 (.slice Ai ins.length ci)) (w.heap.size + 2) 55 #[.int .i64 l.slots, .slice Al lv.length cl] := (((HQ3.out.b2.alloc _).alloc _).alloc _).alloc _
     have hB3 : Blk (doneW w3 (.slice Ai ins.length ci)) (w.heap.size + 3) 47 #[.int .i64 0, .slice none 0 0, .int .i64 0] := (((HQ3.out.b3.alloc _).alloc _).alloc _).alloc _
     have hS : Blk (doneW w3 (.slice Ai ins.length ci)) w3.heap.size 97 (stC ⟨fun _ => 0, fun _ => 0⟩) := by
       rw [← doneZ_st]
       exact ((((Blk.new w3 _ _).alloc _).alloc _).alloc _)
     have hV : Blk (doneW w3 (.slice Ai ins.length ci)) (w3.heap.size + 1) 94 #[.pointer (some ⟨w3.heap.size, 0, none⟩)] := by
       have := ((Blk.new (w3.alloc (.cells doneZ 97)) 94 #[.pointer (some ⟨w3.heap.size, 0, none⟩)]).alloc
         (.cells #[.int .i64 0, .slice none 0 0, .int .i64 0, .int .i64 0, .slice Ai ins.length ci] 75)).alloc (.cells #[.pointer (some ⟨w3.heap.size + 2, 0, none⟩)] 73)
       simpa [doneW] using this
     have hMc : Blk (doneW w3 (.slice Ai ins.length ci)) (w3.heap.size + 2) 75 #[.int .i64 0, .slice none 0 0, .int .i64 0, .int .i64 0, .slice Ai ins.length ci] := by
       have := (Blk.new ((w3.alloc (.cells doneZ 97)).alloc (.cells #[.pointer (some ⟨w3.heap.size, 0, none⟩)] 94)) 75 #[.int .i64 0, .slice none 0 0, .int .i64 0, .int .i64 0, .slice Ai ins.length ci]).alloc (.cells #[.pointer (some ⟨w3.heap.size + 2, 0, none⟩)] 73)
       simpa [doneW] using this
     have hMb : Blk (doneW w3 (.slice Ai ins.length ci)) (w3.heap.size + 3) 73 #[.pointer (some ⟨w3.heap.size + 2, 0, none⟩)] := by
       have := Blk.new (((w3.alloc (.cells doneZ 97)).alloc (.cells #[.pointer (some ⟨w3.heap.size, 0, none⟩)] 94)).alloc (.cells #[.int .i64 0, .slice none 0 0, .int .i64 0, .int .i64 0, .slice Ai ins.length ci] 75)) 73 #[.pointer (some ⟨w3.heap.size + 2, 0, none⟩)]
       simpa [doneW] using this
     have hF3 : Fr w (doneW w3 (.slice Ai ins.length ci)) := ((((HQ3.out.fr.alloc _).alloc _).alloc _).alloc _)
     have c0 := hB0.cell 1
     simp only [List.getElem?_toArray, List.getElem?_cons_succ, List.getElem?_cons_zero] at c0
     unfold doneW doneZ at c0
     have hmf : ∀ (fn : Fn) (first cap : Array Value) (w : World), (Instr.makeFunc fn first cap).run Tryz.prog w = .ok (.func fn first cap) w := fun _ _ _ _ => rfl
     have hww := HQ3.out.fr.size
     clear hw
     have H3 := Lib.hid (And.intro hB0 (And.intro hB2 (And.intro hB3 (And.intro hS (And.intro hV (And.intro hMc (And.intro hMb hF3)))))))
     clear hB0 hB2 hB3 hS hV hMc hMb hF3
     go_wp2_with fail
     obtain ⟨hB0, hB2, hB3, hS, hV, hMc, hMb, hF3⟩ := H3.out
     refine (Go_any 35 (fun _ _ => by kernel_rfl) #[.pointer (some ⟨w.heap.size, 0, none⟩), .pointer (some ⟨w.heap.size + 1 + 1, 0, none⟩), .pointer (some ⟨w3.heap.size + 1, 0, none⟩), .pointer (some ⟨w3.heap.size + 1 + 1 + 1, 0, none⟩)]
       (w3.heap.size + 2) w.heap.size n c A p.code (mPlaces p l.rows) (sh0 ins, ⟨fun _ => 0, fun _ => 0⟩)
       (DoneI w (w.heap.size + 3) w.heap.size (w.heap.size + 2) (w3.heap.size + 1) (w3.heap.size + 3) w3.heap.size (w3.heap.size + 2) p A1 c1 A c l.slots Al cl lv) (fun _ _ h => h.1)
       (fun wr x h ha h0 _ => h.step (by omega) hww HM.out HROWS.out HO.out HI.out (by omega) ha h0) (doneW w3 (.slice Ai ins.length ci)) (by omega) (by omega) (by omega)
       ⟨⟨.slice none 0 0, ⟨rfl, Or.inl ⟨rfl, rfl⟩⟩, Ai, ci, hMc, hl, hc, HINS.out.kept hF3 (fun _ _ h => h)⟩, ⟨hB0, hB2, hV, hMb, hS, HC.out.kept hF3 (fun _ _ h => h), HRL.out.kept hF3 (fun _ _ h => h), fun x hx => (HRO.out x hx).kept hF3 (fun _ _ h => h)⟩, StOk.zero, hF3, hB3⟩
       (At.start _ ins hc1)).mono ?_
     rintro e w4 ⟨rfl, hpost⟩
     obtain ⟨w5, vo, ⟨_, hC5, _, hF5, hR5⟩, hM4, hk⟩ := hpost
     have hout : (doneV p l.rows ins n).out.length ≤ n := by
       have := mRun_outlen (code := p.code) (M := mPlaces p l.rows) n (sh0 ins, ⟨fun _ => 0, fun _ => 0⟩)
       simpa [sh0, doneV] using this
     have hM4' : Mc w4 (w3.heap.size + 2) w.heap.size (doneV p l.rows ins n) vo := hM4
     clear hM4 hB0 hB2 hB3 hS hV hMc hMb hF3 H3 c0 q0 q1 x0 x1 x2 y0 y1 y2 z0 HQ3
     obtain ⟨how, A5, c5, hg5, _, _, _⟩ := id hM4'
     have hm4 := hC5.mb.kept hk (by omega)
     have hs4 := hR5.kept hk (by omega)
     have HF4 := Lib.hid (hF5.then hk (fun i hi e => by omega))
     have m0 := hm4.cell 0
     have q0 := hg5.cell 0
     have q1 := hg5.cell 1
     have q2 := hg5.cell 2
     have s0 := hs4.cell 0
     have s1 := hs4.cell 1
     have s2 := hs4.cell 2
     have y0 := hs4.frozen 0
     have y1 := hs4.frozen 1
     have y2 := hs4.frozen 2
     have z2 := hs4.lt
     simp only [List.getElem?_toArray, List.getElem?_cons_succ, List.getElem?_cons_zero] at m0 q0 q1 q2 s0 s1 s2
     have HX := Lib.hid how
     have HS4 := Lib.hid hs4
     obtain ⟨A9, c9, rfl, _, hr9⟩ := own_reads how
     have HR9 := Lib.hid hr9
     clear hM4' how hg5 hm4 hs4 hk hC5 hF5 hR5 hr9
     go_wp2
     refine bodyPost_ret (v := .tuple #[.agg #[.int .i64 ((doneV p l.rows ins n).state : Int), .slice A9 (doneV p l.rows ins n).out.length c9, .int .i64 ((doneV p l.rows ins n).steps : Int)], .int .i64 0]) ?_ rfl ?_
     · simp [results, Tryz.results15, go_sem, s0, s1, s2]
     · have hK : Kept (fun b => b = w.heap.size + 3) w4 (((w4.setCell ⟨w.heap.size + 3, 0, none⟩ (.int .i64 ((doneV p l.rows ins n).state : Int))).setCell ⟨w.heap.size + 3, 1, none⟩ (.slice A9 (doneV p l.rows ins n).out.length c9)).setCell ⟨w.heap.size + 3, 2, none⟩ (.int .i64 ((doneV p l.rows ins n).steps : Int))) :=
         (((Kept.refl (fun b => b = w.heap.size + 3) w4).setCell (p := ⟨w.heap.size + 3, 0, none⟩) (fun _ => rfl) _).setCell (p := ⟨w.heap.size + 3, 1, none⟩) (fun _ => rfl) _).setCell (p := ⟨w.heap.size + 3, 2, none⟩) (fun _ => rfl) _
       refine ⟨((HF4.out.setCell (fun e => by simp only at e; omega) _).setCell (fun e => by simp only at e; omega) _).setCell (fun e => by simp only at e; omega) _, Or.inr ⟨by rw [HWE.out]; exact HZ.out, _, rfl, A9, c9, rfl, by show (doneV p l.rows ins n).out.length ≤ 100000; omega, ?_⟩⟩
       exact (HR9.out.kept hK (fun b hb e => own_blk_ne HX.out HS4.out (by decide) (e ▸ hb.2))).more (fun b hb => hb.1)
   · have hne : (wrongV p ins.length steps != 0) = true := by simpa using hw
     have HZ := Lib.hid hw
     clear hw
     generalize wrongV p ins.length steps = wr at *
     go_wp2
     refine bodyPost_ret (v := .tuple #[.agg #[.int .i64 0, .slice none 0 0, .int .i64 0], .int .i64 wr]) ?_ rfl ?_
     · simp [results, Tryz.results15, go_sem, x0, x1, x2]
     · show RunPost _ _ _ _ _
       rw [HWE.out]
       exact ⟨((HQ3.out.fr.setCell (fun e => by simp only at e; omega) _).setCell (fun e => by simp only at e; omega) _).setCell (fun e => by simp only at e; omega) _, Or.inl ⟨HZ.out, rfl⟩⟩
end Go.Proofs.YtodmkjeankbieaaGreatDoor


namespace Go.Proofs.YtodmkjeankbieaaGreatDoor
open Go.RowKit Go.Sort

def mvNums (m : Mv) : List Int := [m.to.k, m.to.n, m.fr.k, m.fr.n, if m.c then 1 else 0, (m.n : Int) / 16777216, (m.n : Int) / 65536 % 256, (m.n : Int) / 256 % 256, (m.n : Int) % 256]
def mvsNums (l : List Mv) : List Int := (l.length : Int) :: l.flatMap mvNums
def rwNums (r : Rw) : List Int := [r.d.k, r.d.n, r.a.k, r.a.n, r.b.k, r.b.n] ++ mvsNums r.before ++ mvsNums r.after
def pdNums (p : Pd) : List Int := p.slots :: (p.rows.length : Int) :: p.rows.flatMap rwNums

def ints (l : List Int) : List Value := l.map (Value.int .i64)
theorem mvs_len (l : List Mv) : (mvsNums l).length = 1 + 9 * l.length := by
 unfold mvsNums
 rw [List.length_cons]
 have : ∀ l : List Mv, (l.flatMap mvNums).length = 9 * l.length := by
   intro l
   induction l with
   | nil => rfl
   | cons x l ih => rw [List.flatMap_cons, List.length_append, ih, List.length_cons]; simp [mvNums]; omega
 rw [this]; omega

theorem mvs_take (l : List Mv) (k : Nat) (m : Mv) (h : l[k]? = some m) : (l.take (k + 1)).flatMap mvNums = (l.take k).flatMap mvNums ++ mvNums m := by
 rw [List.take_add_one, h]; simp

def numsTo (p : Pd) (k : Nat) : List Int := p.slots :: (p.rows.length : Int) :: (p.rows.take k).flatMap rwNums
theorem numsTo_succ (p : Pd) (k : Nat) (r : Rw) (h : p.rows[k]? = some r) : numsTo p (k + 1) = numsTo p k ++ [r.d.k, r.d.n, r.a.k, r.a.n, r.b.k, r.b.n] ++ mvsNums r.before ++ mvsNums r.after := by
 unfold numsTo
 rw [List.take_add_one, h]
 simp [rwNums]
theorem numsTo_le (p : Pd) (k : Nat) : (numsTo p k).length ≤ (pdNums p).length := by
 unfold numsTo pdNums
 have h := List.take_append_drop k p.rows
 have : (p.rows.flatMap rwNums).length = ((p.rows.take k).flatMap rwNums).length + ((p.rows.drop k).flatMap rwNums).length := by
   rw [← List.length_append, ← List.flatMap_append, h]
 simp only [List.length_cons]
 omega
theorem numsTo_all (p : Pd) : numsTo p p.rows.length = pdNums p := by
 unfold numsTo pdNums; rw [List.take_length]
theorem numsTo_0 (p : Pd) : numsTo p 0 = [p.slots, (p.rows.length : Int)] := rfl

end Go.Proofs.YtodmkjeankbieaaGreatDoor


namespace Go.Proofs.YtodmkjeankbieaaGreatDoor
open Go.RowKit Go.Sort

def isByte (n : Int) : Bool := decide (0 ≤ n ∧ n ≤ 255)

theorem reads_int {w : World} {R : Nat → Prop} {A : Option Addr} {n k : Nat} {K : IntKind} {l : List Int} {x : Int} (h : Reads w R 1 A n (l.map (Value.int K))) (hm : l[k]? = some x) :
   ∃ b off, A = some ⟨b, off, none⟩ ∧ R b ∧ w.cell? ⟨b, off + k, none⟩ = some (.int K x) := by
 have hk : k < l.length := (List.getElem?_eq_some_iff.1 hm).1
 have hl := h.1
 rw [List.length_map, Nat.mul_one] at hl
 obtain ⟨b, off, hA, hR, hc⟩ := h.2 (by omega)
 exact ⟨b, off, hA, hR, hc k _ (by rw [List.getElem?_map, hm]; rfl)⟩

theorem slByte : SlTy Tryz.prog 59 5 1 1 := SlTy.mk' (z := .int .u8 0) Tryz.underlying59 (by kernel_rfl) rfl (by decide)
def byteVals (l : List Int) : List Value := l.map (Value.int .u8)

def toByte (L : List Int) : List Int := L.map (· % 256)

end Go.Proofs.YtodmkjeankbieaaGreatDoor


namespace Go.Proofs.YtodmkjeankbieaaGreatDoor
open Go.RowKit Go.Sort

structure Wr (w : World) (g base : Nat) (v : Value) (bs : List Int) (bad : Bool) : Prop where
 blk : Blk w g 108 #[v, .bool bad]
 own : w.ownsRow base 5 1 v bs.length (byteVals bs)

def WrPost (w : World) (g base : Nat) (v : Value) (bs : List Int) (bad : Bool) (L : List Int) (w' : World) : Prop :=
 ∃ v', Wr w' g base v' (bs ++ toByte L) (bad || !L.all isByte) ∧ Kept (fun b => b = g ∨ v.ownBlock = some b) w w' ∧ ∀ b, v'.ownBlock = some b → v.ownBlock = some b ∨ w.heap.size ≤ b

theorem own_ret {w : World} {base : Nat} {v : Value} {n : Nat} {bs : List Int} {xs : List Value} (h : w.ownsRow base 5 1 v n xs) (hx : xs = byteVals bs) : w.ownsRow base 5 1 v bs.length (byteVals bs) := by
 subst hx
 have e : n = bs.length := by
   have := h.1
   simpa [byteVals] using this.symm
 subst e
 exact h

structure PutInv (w wr : World) (g base : Nat) (v0 : Value) (bs : List Int) (bad : Bool) (L : List Int) (k : Nat) (v : Value) : Prop where
 wr' : Wr wr g base v (bs ++ toByte (L.take k)) (bad || !(L.take k).all isByte)
 kept : Kept (fun b => b = g ∨ v0.ownBlock = some b) w wr
 at_ : ∀ b, v.ownBlock = some b → v0.ownBlock = some b ∨ w.heap.size ≤ b

theorem toByte_succ (L : List Int) (k : Nat) (x : Int) (h : L[k]? = some x) : toByte (L.take (k + 1)) = toByte (L.take k) ++ [x % 256] := by
 rw [List.take_add_one, h]; simp [toByte]
theorem all_succ (L : List Int) (k : Nat) (x : Int) (h : L[k]? = some x) : (L.take (k + 1)).all isByte = ((L.take k).all isByte && isByte x) := by
 rw [List.take_add_one, h]; simp


theorem own_set {w : World} {g base n : Nat} {v u : Value} {xs : List Value} {cs : Array Value} {i : Nat} (h : w.ownsRow base 5 1 v n xs) (hb : Blk w g 108 cs) : (w.setCell ⟨g, i, none⟩ u).ownsRow base 5 1 v n xs :=
 own_kept h ((Kept.refl (fun b => b = g) w).setCell (p := ⟨g, i, none⟩) (fun _ => rfl) _) (fun b he e => by subst e; exact own_blk_ne h hb (by decide) he)

theorem put_blk {wr w1 : World} {g base n : Nat} {v u a b : Value} {xs : List Value} {o : Obj} (hB : Blk wr g 108 #[a, b]) (hown : wr.ownsRow base 5 1 v n xs)
   (hk : Kept (fun b => v.ownBlock = some b) ((wr.setCell ⟨g, 1, none⟩ u).alloc o) w1) : Blk w1 g 108 #[a, u] := by
 have h1 := (hB.set_ 1 u).alloc o
 have h2 := (own_set (i := 1) (u := u) hown hB).alloc o
 simpa using h1.kept hk (own_blk_ne h2 h1 (by decide))

theorem own_byte {w : World} {base n : Nat} {v : Value} {xs : List Value} {x : Int} (h : w.ownsRow base 5 1 v n (xs ++ #[Value.int .u8 x].toList)) (h0 : 0 ≤ x) (h1 : x ≤ 255) : w.ownsRow base 5 1 v n (xs ++ [Value.int .u8 (x % 256)]) := by
 have e : x % 256 = x := by omega
 rw [e]
 exact h

theorem put_step {w wr w1 : World} {g base : Nat} {v0 v v1 : Value} {bs : List Int} {bad : Bool} {L : List Int} {k : Nat} {x : Int} {bad2 : Bool} {o : Obj}
   (h : PutInv w wr g base v0 bs bad L k v) (hx : L[k]? = some x) (hb : bad2 = ((bad || !(L.take k).all isByte) || !isByte x))
   (hown : w1.ownsRow base 5 1 v1 ((bs ++ toByte (L.take k)).length + 1) (byteVals (bs ++ toByte (L.take k)) ++ [.int .u8 (x % 256)]))
   (hk : Kept (fun b => v.ownBlock = some b) ((wr.setCell ⟨g, 1, none⟩ (.bool bad2)).alloc o) w1)
   (hat : v1.ownBlock = v.ownBlock ∨ v1.ownBlock = some ((wr.setCell ⟨g, 1, none⟩ (.bool bad2)).alloc o).heap.size) :
   PutInv w (w1.setCell ⟨g, 0, none⟩ v1) g base v0 bs bad L (k + 1) v1 := by
 have hsz : wr.heap.size ≤ ((wr.setCell ⟨g, 1, none⟩ (.bool bad2)).alloc o).heap.size := by simp [World.setCell]
 have hB0 := (h.wr'.blk.set_ 1 (.bool bad2)).alloc o
 have hown0 : ((wr.setCell ⟨g, 1, none⟩ (.bool bad2)).alloc o).ownsRow base 5 1 v (bs ++ toByte (L.take k)).length (byteVals (bs ++ toByte (L.take k))) :=
   own_kept h.wr'.own (((Kept.refl (fun b => b = g) wr).setCell (p := ⟨g, 1, none⟩) (fun _ => rfl) _).alloc o) (fun b hb e => by subst e; exact own_blk_ne h.wr'.own h.wr'.blk (by decide) hb)
 have hB1 := hB0.kept hk (own_blk_ne hown0 hB0 (by decide))
 have hB2 := hB1.set_ 0 v1
 have hn1 := own_blk_ne hown hB1 (by decide)
 have hown2 : (w1.setCell ⟨g, 0, none⟩ v1).ownsRow base 5 1 v1 _ _ := own_kept hown ((Kept.refl (fun b => b = g) w1).setCell (p := ⟨g, 0, none⟩) (fun _ => rfl) _) (fun b hb e => by subst e; exact hn1 hb)
 refine ⟨⟨?_, own_ret hown2 ?_⟩, ?_, ?_⟩
 · have e : (bad || !(L.take (k + 1)).all isByte) = bad2 := by
     rw [all_succ L k x hx, hb]
     cases bad <;> cases (L.take k).all isByte <;> cases isByte x <;> rfl
   rw [e]
   simpa using hB2
 · rw [toByte_succ L k x hx]; simp [byteVals]
 · have k1 : Kept (fun b => b = g ∨ v0.ownBlock = some b) w ((wr.setCell ⟨g, 1, none⟩ (.bool bad2)).alloc o) := (h.kept.setCell (fun _ => .inl rfl) _).alloc o
   have k2 := k1.then hk (fun i hi hs => (h.at_ i hs).elim (fun e => .inr e) (fun e => absurd hi (by omega)))
   exact k2.setCell (fun _ => .inl rfl) _
 · intro b hb
   rcases hat with e | e
   · rw [e] at hb; exact h.at_ b hb
   · rw [e] at hb
     cases hb
     have := h.kept.size
     exact .inr (by omega)

set_option maxHeartbeats 1000000 in
set_option maxRecDepth 100000 in
theorem put_any (R : Nat → Prop) (g base : Nat) (v : Value) (bs : List Int) (bad : Bool) (A : Option Addr) (c : Nat) (L : List Int) (w : World) (hw : Wr w g base v bs bad) (hr : Reads w R 1 A L.length (ints L))
   (hR : ∀ b, R b → b ≠ g ∧ v.ownBlock ≠ some b) (hb : base ≤ w.heap.size) (hl : bs.length + L.length ≤ 140737488355328) :
   Calls Tryz.prog 39 #[.pointer (some ⟨g, 0, none⟩), .slice A L.length c] w fun e w' => e = .returned (.tuple #[]) ∧ WrPost w g base v bs bad L w' := by
 go_enter Tryz.func39, Tryz.ntmps39
 go_wp2
 go_loopw [8] (fun i wr => ∃ (k : Nat) (v1 : Value), k ≤ L.length ∧ i = .int .i64 k ∧ PutInv w wr g base v bs bad L k v1) (fun i _ => L.length - (intOf i).toNat)
 case atStart => exact ⟨0, v, by omega, rfl, ⟨by simpa [toByte] using hw.blk, by simpa [toByte] using hw.own⟩, Kept.refl _ _, fun b h => .inl h⟩
 case round =>
   obtain ⟨k, v1, hk, rfl, hinv⟩ := hrel
   by_cases hlt : k < L.length
   · have hm : L[k]? = some L[k] := List.getElem?_eq_getElem hlt
     generalize L[k] = x at *
     obtain ⟨b, off, rfl, _, c0⟩ := reads_int (hr.kept hinv.kept (fun b hb hs => hs.elim (hR b hb).1 (hR b hb).2)) hm
     have hB := hinv.wr'.blk
     have q0 := hB.cell 0
     have q1 := hB.cell 1
     have z0 := hB.frozen 0
     have z1 := hB.frozen 1
     have hlt2 := hB.lt
     have hs2 := hinv.kept.size
     obtain ⟨A1, c1, rfl, hm1, _⟩ := own_reads hinv.wr'.own
     simp only [List.getElem?_toArray, List.getElem?_cons_succ, List.getElem?_cons_zero] at q0 q1
     have hlen : ∀ d, (bs ++ toByte (L.take k)).length = d → d ≤ bs.length + k := by
       intro d hd
       rw [← hd, List.length_append]
       simp only [toByte, List.length_map, List.length_take]
       omega
     have hlen1 := hlen _ rfl
     have hown := hinv.wr'.own
     have hbase : base ≤ wr.heap.size := by omega
     have H2 := fun bad2 v1 w1 o hb ho hk hat => put_step (v1 := v1) (w1 := w1) (bad2 := bad2) (o := o) hinv hm hb ho hk hat
     have hib : isByte x = decide (0 ≤ x ∧ x ≤ 255) := rfl
     generalize (bad || !(L.take k).all isByte) = bd at *
     clear hr hinv hlen
     generalize bs ++ toByte (L.take k) = cur at *
     have H3 := Lib.hid H2
     clear H2
     generalize hbb : isByte x = ib at *
     have HB := Lib.hid hB
     have hib2 : ib = decide (0 ≤ x ∧ x ≤ 255) := hib
     clear hbb hib
     have H1 := Lib.hid hm
     clear hm
     obtain ⟨hbd, hway⟩ : ∃ bad2 : Bool, bad2 = (bd || !ib) ∧ ((bd = true ∧ bad2 = true) ∨ (bd = false ∧ x < 0 ∧ bad2 = true) ∨ (bd = false ∧ ¬ x < 0 ∧ 255 < x ∧ bad2 = true) ∨ (bd = false ∧ ¬ x < 0 ∧ ¬ 255 < x ∧ bad2 = false)) := by
       refine ⟨_, rfl, ?_⟩
       rw [hib2]
       cases bd
       · by_cases g1 : x < 0
         · exact .inr (.inl ⟨rfl, g1, by simp; omega⟩)
         · by_cases g2 : 255 < x
           · exact .inr (.inr (.inl ⟨rfl, g1, g2, by simp; omega⟩))
           · exact .inr (.inr (.inr ⟨rfl, g1, g2, by simp; omega⟩))
       · exact .inl ⟨rfl, rfl⟩
     obtain ⟨hbd2, hway⟩ := hway
     have H4 := Lib.hid hbd2
     clear hbd2 hib2
     rcases hway with ⟨rfl, rfl⟩ | ⟨rfl, h1, rfl⟩ | ⟨rfl, h1, h2, rfl⟩ | ⟨rfl, h1, h2, rfl⟩
     · go_wp2_with (first
         | (at_builtin
            refine wpList_app _ rfl slByte (.tmp 31) (.tmp 34) rfl (.slice A1 _ c1) _ _ rfl ((own_set hown HB.out).alloc _) (fun _ => True) _ 1 1 _ rfl (Reads.lit' (by simp) trivial rfl) ?_ ?_ ?_ ?_ ?_
            · simp [Value.oneCell']
            · omega
            · unfold maxLen; omega
            · simp [World.setCell]; omega
            intro v1 w1 hown1 hk1 hat1
            obtain ⟨A2, c2, rfl, _, _⟩ := own_reads hown1
            have hB1 := put_blk HB.out hown hk1
            have p0 := hB1.cell 0
            have y0 := hB1.frozen 0
            simp only [List.getElem?_toArray, List.getElem?_cons_zero] at p0))
       go_roundw
       case rel => exact ⟨k + 1, _, by omega, by go_num, H3.out _ _ _ _ H4.out hown1 hk1 hat1⟩
       case measure => simp [intOf]; omega
     · have h1' : decide (x < 0) = true := by simp; omega
       go_wp2_with (first
         | (at_builtin
            refine wpList_app _ rfl slByte (.tmp 31) (.tmp 34) rfl (.slice A1 _ c1) _ _ rfl ((own_set hown HB.out).alloc _) (fun _ => True) _ 1 1 _ rfl (Reads.lit' (by simp) trivial rfl) ?_ ?_ ?_ ?_ ?_
            · simp [Value.oneCell']
            · omega
            · unfold maxLen; omega
            · simp [World.setCell]; omega
            intro v1 w1 hown1 hk1 hat1
            obtain ⟨A2, c2, rfl, _, _⟩ := own_reads hown1
            have hB1 := put_blk HB.out hown hk1
            have p0 := hB1.cell 0
            have y0 := hB1.frozen 0
            simp only [List.getElem?_toArray, List.getElem?_cons_zero] at p0))
       go_roundw
       case rel => exact ⟨k + 1, _, by omega, by go_num, H3.out _ _ _ _ H4.out hown1 hk1 hat1⟩
       case measure => simp [intOf]; omega
     · have h1' : decide (x < 0) = false := by simp; omega
       go_wp2_with (first
         | (at_builtin
            refine wpList_app _ rfl slByte (.tmp 31) (.tmp 34) rfl (.slice A1 _ c1) _ _ rfl ((own_set hown HB.out).alloc _) (fun _ => True) _ 1 1 _ rfl (Reads.lit' (by simp) trivial rfl) ?_ ?_ ?_ ?_ ?_
            · simp [Value.oneCell']
            · omega
            · unfold maxLen; omega
            · simp [World.setCell]; omega
            intro v1 w1 hown1 hk1 hat1
            obtain ⟨A2, c2, rfl, _, _⟩ := own_reads hown1
            have hB1 := put_blk HB.out hown hk1
            have p0 := hB1.cell 0
            have y0 := hB1.frozen 0
            simp only [List.getElem?_toArray, List.getElem?_cons_zero] at p0))
       go_roundw
       case rel => exact ⟨k + 1, _, by omega, by go_num, H3.out _ _ _ _ H4.out hown1 hk1 hat1⟩
       case measure => simp [intOf]; omega
     · have h1' : decide (x < 0) = false := by simp; omega
       have h2' : decide (255 < x) = false := by simp; omega
       go_wp2_with (first
         | (at_builtin
            refine wpList_app _ rfl slByte (.tmp 31) (.tmp 34) rfl (.slice A1 _ c1) _ _ rfl ((own_set hown HB.out).alloc _) (fun _ => True) _ 1 1 _ rfl (Reads.lit' (by simp) trivial rfl) ?_ ?_ ?_ ?_ ?_
            · simp [Value.oneCell']
            · omega
            · unfold maxLen; omega
            · simp [World.setCell]; omega
            intro v1 w1 hown1 hk1 hat1
            obtain ⟨A2, c2, rfl, _, _⟩ := own_reads hown1
            have hB1 := put_blk HB.out hown hk1
            have p0 := hB1.cell 0
            have y0 := hB1.frozen 0
            simp only [List.getElem?_toArray, List.getElem?_cons_zero] at p0))
       go_roundw
       case rel => exact ⟨k + 1, _, by omega, by go_num, H3.out _ _ _ _ H4.out (own_byte hown1 (by omega) (by omega)) hk1 hat1⟩
       case measure => simp [intOf]; omega
   · obtain rfl : k = L.length := by omega
     obtain ⟨hw1, hk1, hat1⟩ := hinv
     rw [List.take_length] at hw1
     go_wp2
     go_end0
     exact ⟨rfl, v1, hw1, hk1, hat1⟩
theorem put_lit (g base : Nat) (v : Value) (bs : List Int) (bad : Bool) (L : List Int) (w : World) (gl n : Nat) (e : TypeId) (cs : Array Value) (hw : Wr w g base v bs bad) (hgl : gl = w.heap.size) (hn : n = L.length) (hcs : cs.toList = ints L)
   (hb : base ≤ w.heap.size) (hl : bs.length + L.length ≤ 140737488355328) :
   Calls Tryz.prog 39 #[.pointer (some ⟨g, 0, none⟩), .slice (some ⟨gl, 0, none⟩) n n] (w.alloc (.cells cs e)) fun e w' => e = .returned (.tuple #[]) ∧ WrPost w g base v bs bad L w' := by
 subst hn
 have hlt := hw.blk.lt
 have hw2 : Wr (w.alloc (.cells cs e)) g base v bs bad := ⟨hw.blk.alloc _, World.ownsRow.alloc hw.own _⟩
 have hr : Reads (w.alloc (.cells cs e)) (fun b => b = gl) 1 (some ⟨gl, 0, none⟩) L.length (ints L) := by
   rw [← hcs]
   refine Reads.lit' hgl rfl ?_
   have : cs.size = (ints L).length := by rw [← hcs]; simp
   rw [this]; simp [ints]
 refine (put_any (fun b => b = gl) g base v bs bad _ L.length L _ hw2 hr ?_ (by simp; omega) hl).mono ?_
 · intro b hb2
   subst hb2
   subst hgl
   exact ⟨by omega, fun e => by have := (own_lt hw.own e).2; omega⟩
 · rintro e w' ⟨he, v', h1, h2, h3⟩
   refine ⟨he, v', h1, ⟨h2.os, h2.tape, h2.output, Nat.le_trans (by simp) h2.size, fun k hk hs => ?_⟩, fun b hb3 => ?_⟩
   · exact (h2.block k (by simp; omega) hs).trans (Below.heap_alloc _ _ _ hk)
   · rcases h3 b hb3 with h4 | h4
     · exact .inl h4
     · simp at h4
       exact .inr (by omega)

theorem WrPost.more {w w1 w2 : World} {g base : Nat} {v v1 : Value} {bs : List Int} {bad : Bool} {L1 L2 : List Int} (hk : Kept (fun b => b = g ∨ v.ownBlock = some b) w w1) (hat : ∀ b, v1.ownBlock = some b → v.ownBlock = some b ∨ w.heap.size ≤ b)
   (h : WrPost w1 g base v1 (bs ++ toByte L1) (bad || !L1.all isByte) L2 w2) : WrPost w g base v bs bad (L1 ++ L2) w2 := by
 obtain ⟨v2, h1, h2, h3⟩ := h
 have hz := hk.size
 refine ⟨v2, ⟨?_, ?_⟩, hk.then h2 (fun i hi hs => ?_), fun b hb => ?_⟩
 · have e : (bad || !(L1 ++ L2).all isByte) = (bad || !L1.all isByte || !L2.all isByte) := by rw [List.all_append]; cases bad <;> cases L1.all isByte <;> cases L2.all isByte <;> rfl
   rw [e]; exact h1.blk
 · have e : bs ++ toByte (L1 ++ L2) = bs ++ toByte L1 ++ toByte L2 := by simp [toByte]
   rw [e]; exact h1.own
 · rcases hs with e | e
   · exact .inl e
   · rcases hat i e with e2 | e2
     · exact .inr e2
     · omega
 · rcases h3 b hb with e | e
   · exact hat b e
   · exact .inr (by omega)

end Go.Proofs.YtodmkjeankbieaaGreatDoor

