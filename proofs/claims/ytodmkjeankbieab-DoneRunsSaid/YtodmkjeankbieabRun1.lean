/- The walk of the closure of run.Run: one instruction, of temporaries. -/
import Derived.Test.YtodmkjeankbieabRun
import Derived.Test.YtodmkjeankbieabInsPlain
import Derived.Test.YtodmkjeankbieabLayout
import Derived.Deep.RegionHeld3
namespace Go.Proofs.Ytodmkjeankbieab
open Go.RowKit Go.Sort

/-- the cells of n temporaries -/
def mkU (n : Nat) (f : Int → Int) : Array Value := ((List.range n).map fun (t : Nat) => Value.int .u64 (f (t : Int))).toArray
theorem mkU_at {n : Nat} {f : Int → Int} {t : Nat} (h : t < n) : (mkU n f)[t]? = some (.int .u64 (f t)) := by
  unfold mkU
  simp [List.getElem?_range h]
theorem mkU_set {n : Nat} {f : Int → Int} {t : Nat} {x : Int} : (mkU n f).setIfInBounds t (.int .u64 x) = mkU n (upd f t x) := by
  unfold mkU upd
  rw [List.setIfInBounds_toArray]
  congr 1
  apply List.ext_getElem
  · simp
  · intro i h1 h2
    simp at h1
    rw [List.getElem_set]
    by_cases h : t = i
    · subst h; simp
    · rw [if_neg h]
      simp
      intro e; exact absurd (by omega) h
theorem Blk.ucell {w : World} {g : Nat} {e : TypeId} {n : Nat} {f : Int → Int} (h : Blk w g e (mkU n f)) {t : Nat} (ht : t < n) : w.cell? ⟨g, t, none⟩ = some (.int .u64 (f t)) := by
  rw [h.cell, mkU_at ht]
theorem Blk.uset {w : World} {g : Nat} {e : TypeId} {n : Nat} {f : Int → Int} (h : Blk w g e (mkU n f)) (t : Nat) (x : Int) : Blk (w.setCell ⟨g, t, none⟩ (.int .u64 x)) g e (mkU n (upd f t x)) := by
  have := h.set_ t (.int .u64 x)
  rwa [mkU_set] at this

/-- what the closure captures: the program's variable, the machine's, the temporaries' -/
structure Clo (w : World) (bp bm bt g B : Nat) (p : Pg) (A1 : Option Addr) (c1 : Nat) (A : Option Addr) (c : Nat) (T : Int → Int) : Prop where
  pb : Blk w bp 25 #[.slice A1 p.wide.length c1, .slice A p.code.length c]
  mb : Blk w bm 83 #[.pointer (some ⟨g, 0, none⟩)]
  tb : Blk w bt 82 (mkU 12 T)
  rd : Reads w (fun b => b < B) 6 A p.code.length (p.code.flatMap In.cells)

theorem Clo.keep {w w' : World} {bp bm bt g B : Nat} {p : Pg} {A1 A : Option Addr} {c1 c : Nat} {T : Int → Int} {r : Sh} {vo : Value} (h : Clo w bp bm bt g B p A1 c1 A c T) (hm : Mc w g B r vo) (hg : B ≤ g)
    (hk : Kept (McS g vo) w w') : Clo w' bp bm bt g B p A1 c1 A c T :=
  ⟨hm.blk hk h.pb (by decide) (by decide), hm.blk hk h.mb (by decide) (by decide), hm.blk hk h.tb (by decide) (by decide), h.rd.kept hk (fun b hb e => by
    rcases e with e | e
    · omega
    · have := (own_lt hm.ow e).1; omega)⟩
theorem Mc.kept {w w' : World} {S : Nat → Prop} {g B : Nat} {r : Sh} {vo : Value} (h : Mc w g B r vo) (hk : Kept S w w') (hg : ¬ S g) (ho : ∀ k, vo.ownBlock = some k → ¬ S k) (hB : ∀ b, b < B → ¬ S b) : Mc w' g B r vo := by
  obtain ⟨how, A, c, hb, h1, h2, hr⟩ := h
  exact ⟨own_kept how hk ho, A, c, hb.kept hk hg, h1, h2, hr.kept hk hB⟩
theorem Mc.fr_ {w w' : World} {g B : Nat} {r : Sh} {vo : Value} (h : Mc w g B r vo) (hk : Fr w w') : Mc w' g B r vo := h.kept hk (fun h => h) (fun _ _ h => h) (fun _ _ h => h)
theorem Clo.fr_ {w w' : World} {bp bm bt g B : Nat} {p : Pg} {A1 A : Option Addr} {c1 c : Nat} {T : Int → Int} (h : Clo w bp bm bt g B p A1 c1 A c T) (hk : Fr w w') : Clo w' bp bm bt g B p A1 c1 A c T :=
  ⟨h.pb.kept hk (fun h => h), h.mb.kept hk (fun h => h), h.tb.kept hk (fun h => h), h.rd.kept hk (fun _ _ h => h)⟩

def RunS (bt g : Nat) (vo : Value) (k : Nat) : Prop := k = bt ∨ McS g vo k

set_option maxHeartbeats 4000000 in
set_option maxRecDepth 100000 in
theorem Run1_any (bp bm bt g B : Nat) (p : Pg) (A1 : Option Addr) (c1 : Nat) (A : Option Addr) (c : Nat) (T : Int → Int) (r : Sh) (vo : Value) (w : World) (hC : Clo w bp bm bt g B p A1 c1 A c T) (hM : Mc w g B r vo) (hg : B ≤ g) (hbt : B ≤ bt)
    (hm : mayB p = true) (hn : (inAt p.code r.pc).n < 4294967296) (hpc : r.pc < p.code.length) (hT : ∀ t, 0 ≤ T t ∧ T t < 18446744073709551616) (hw : ∀ t, wd p.wide t = false → T t < 4294967296)
    (hs : r.steps ≤ 100000) (ho : r.out.length ≤ 100000) (hi : ∀ n ∈ r.ins, 0 ≤ n ∧ n < 4294967296) :
    Calls Try.prog 41 #[.int .i64 (r.pc : Int), .pointer (some ⟨bp, 0, none⟩), .pointer (some ⟨bm, 0, none⟩), .pointer (some ⟨bt, 0, none⟩)] w fun e w' => e = .returned (.tuple #[]) ∧
      (∃ vo', Mc w' g B (rawStep r (inAt p.code r.pc) (T (inAt p.code r.pc).a)) vo') ∧
      Clo w' bp bm bt g B p A1 c1 A c (if gvs (inAt p.code r.pc).op then upd T (inAt p.code r.pc).d (giveV (inAt p.code r.pc) (T (inAt p.code r.pc).a) (T (inAt p.code r.pc).b) (r.ins.headD 0)) else T) ∧ Kept (RunS bt g vo) w w' := by
  have hl := mayB_len hm
  have hI := mayB_ins hm (inAt_mem hpc)
  obtain ⟨⟨ha0, ha1⟩, ⟨hb0, hb1⟩, ⟨hd0, hd1⟩, hc0⟩ := ins_fields hI hl.1
  have hok := insOk hI
  have hx : p.code[r.pc]? = some (inAt p.code r.pc) := by rw [inAt_get hpc]; exact List.getElem?_eq_getElem hpc
  obtain ⟨b, off, rfl, hbB, d0, d1, d2, d3, d4, d5⟩ := hC.rd.ins hx
  have h5 : (inAt p.code r.pc).op = 5 → T (inAt p.code r.pc).a < 4294967296 ∧ T (inAt p.code r.pc).b < 4294967296 := fun h => ⟨hw _ (hok.w5 h).2.1, hw _ (hok.w5 h).2.2⟩
  have hk := hok.kn
  have hTa := hT (inAt p.code r.pc).a
  have hTb := hT (inAt p.code r.pc).b
  clear hI hok hx hw hT hm
  generalize inAt p.code r.pc = i at *
  obtain ⟨op, d, a, b1, cc, n⟩ := i
  simp only at *
  obtain ⟨an, rfl⟩ : ∃ an : Nat, a = (an : Int) := ⟨a.toNat, by omega⟩
  obtain ⟨bn, rfl⟩ : ∃ bn : Nat, b1 = (bn : Int) := ⟨b1.toNat, by omega⟩
  obtain ⟨dn, rfl⟩ : ∃ dn : Nat, d = (dn : Int) := ⟨d.toNat, by omega⟩
  have p0 := hC.pb.cell 1
  have m0 := hC.mb.cell 0
  simp only [List.getElem?_toArray, List.getElem?_cons_succ, List.getElem?_cons_zero] at p0 m0
  have ta := hC.tb.ucell (t := an) (by omega)
  have tb := hC.tb.ucell (t := bn) (by omega)
  have zb := cell_lt d0
  have zm := hC.mb.lt
  have zt := hC.tb.lt
  have zp := hC.pb.lt
  have hp0 : (0 : Int) ≤ (r.pc : Int) := Int.natCast_nonneg _
  have hp1 : (r.pc : Int) < (p.code.length : Int) := by omega
  have HC := Lib.hid hC
  have HM := Lib.hid hM
  have H5 := Lib.hid h5
  have HK := Lib.hid hk
  have HI := Lib.hid hi
  clear hC hM h5 hk hi
  have HD := Lib.hid (fun w (hm : Mc w g B r vo) => Do_any g B r vo ⟨op, dn, an, bn, cc, n⟩ (T an) (T bn) w hm hg HK.out hn hTa hTb H5.out hs ho (by omega) (fun _ => hc0) HI.out)
  have HG := Lib.hid (fun w => Gives_any ⟨op, dn, an, bn, cc, n⟩ w HK.out)
  unfold In.val at HD HG
  simp only at HD HG
  obtain ⟨pc, ins, out, steps, state⟩ := r
  simp only at *
  generalize hT' : (if gvs op = true then upd T (dn : Int) (giveV ⟨op, (dn : Int), (an : Int), (bn : Int), cc, n⟩ (T (an : Int)) (T (bn : Int)) (ins.headD 0)) else T) = T'
  have HT := Lib.hid hT'
  clear hT'
  go_enter Try.func41, Try.ntmps41
  go_wp2
  have HB := Lib.hid (Blk.new w 45 #[.int .i64 op, .int .i64 dn, .int .i64 an, .int .i64 bn, .int .i64 cc, .int .u32 n])
  have HF : Hid (Fr w (w.alloc (.cells #[.int .i64 op, .int .i64 dn, .int .i64 an, .int .i64 bn, .int .i64 cc, .int .u32 n] 45))) := (Kept.refl _ w).alloc _
  generalize w.alloc (.cells #[.int .i64 op, .int .i64 dn, .int .i64 an, .int .i64 bn, .int .i64 cc, .int .u32 n] 45) = W at *
  have HC1 := Lib.hid (HC.out.fr_ HF.out)
  have HM1 := Lib.hid (HM.out.fr_ HF.out)
  clear d0 d1 d2 d3 d4 d5 p0 m0 ta tb zb zm zt zp
  have m0 := HC1.out.mb.cell 0
  have e0 := HB.out.cell 0
  have e1 := HB.out.cell 1
  have e2 := HB.out.cell 2
  have e3 := HB.out.cell 3
  have e4 := HB.out.cell 4
  have e5 := HB.out.cell 5
  simp only [List.getElem?_toArray, List.getElem?_cons_succ, List.getElem?_cons_zero] at m0 e0 e1 e2 e3 e4 e5
  have ta := HC1.out.tb.ucell (t := an) (by omega)
  have tb := HC1.out.tb.ucell (t := bn) (by omega)
  have zt := HC1.out.tb.lt
  have hTi1 : (an : Int) < 12 := by omega
  have hTi2 : (bn : Int) < 12 := by omega
  go_region_held3 (fun w' => w'.cell? ⟨bm, 0, none⟩ = some (.pointer (some ⟨g, 0, none⟩)) ∧ w'.cell? ⟨w.heap.size, 0, none⟩ = some (.int .i64 op) ∧ w'.cell? ⟨w.heap.size, 1, none⟩ = some (.int .i64 dn) ∧ w'.cell? ⟨w.heap.size, 2, none⟩ = some (.int .i64 an) ∧
      w'.cell? ⟨w.heap.size, 3, none⟩ = some (.int .i64 bn) ∧ w'.cell? ⟨w.heap.size, 4, none⟩ = some (.int .i64 cc) ∧ w'.cell? ⟨w.heap.size, 5, none⟩ = some (.int .u32 n) ∧
      w'.cell? ⟨bt, an, none⟩ = some (.int .u64 (T an)) ∧ w'.cell? ⟨bt, bn, none⟩ = some (.int .u64 (T bn)))
    (first
      | go_keep
      | (go_split_ands
         have hC3 := HC1.out.keep HM1.out hg (((Kept.refl (McS g vo) W).drew).trans hk3)
         have hB3 := HM1.out.blk (((Kept.refl (McS g vo) W).drew).trans hk3) HB.out (by decide) (by decide)
         refine ⟨?_, ?_, ?_, ?_, ?_, ?_, ?_, ?_, ?_⟩
         · exact hC3.mb.cell 0
         · exact hB3.cell 0
         · exact hB3.cell 1
         · exact hB3.cell 2
         · exact hB3.cell 3
         · exact hB3.cell 4
         · exact hB3.cell 5
         · exact hC3.tb.ucell (t := an) (by omega)
         · exact hC3.tb.ucell (t := bn) (by omega)))
    (first
      | (go_at_call 42; refine (HD.out _ (HM1.out.fr_ ((Kept.refl _ W).drew))).mono ?_; rintro e w3 ⟨v, rfl, hv, ⟨vo3, hm3⟩, hk3⟩))
  rename_i hHeld
  obtain ⟨-, e0, e1, e2, e3, e4, e5, -, -⟩ := hHeld
  have hk3' : Kept (McS g vo) W w3 := ((Kept.refl (McS g vo) W).drew).trans hk3
  have HC3 := Lib.hid (HC1.out.keep HM1.out hg hk3')
  have HB3 := Lib.hid (HM1.out.blk hk3' HB.out (by decide) (by decide))
  have HM3 := Lib.hid hm3
  have HV := Lib.hid hv
  have HK3 : Hid (Kept (RunS bt g vo) w w3) := (HF.out.mono (fun i _ h => h.elim)).trans (hk3'.mono (fun i _ h => Or.inr h))
  clear hm3 hv hk3 hk3' HD HM HM1 HC HC1 HB HF m0 ta tb zt
  cases hgv : gvs op with
  | false =>
    have h' := HT.out
    rw [if_neg (by rw [hgv]; decide)] at h'
    subst h'
    rw [hgv] at HG
    clear hgv HV HT
    go_wp2_with (go_at_call 43; refine (HG.out _).mono ?_; rintro e w4 ⟨rfl, f4⟩)
    go_end0
    exact ⟨rfl, ⟨vo3, HM3.out.fr_ f4⟩, HC3.out.fr_ f4, HK3.out.trans (f4.mono (fun i _ h => h.elim))⟩
  | true =>
    have h' := HT.out
    rw [if_pos hgv, ← HV.out hgv] at h'
    have HT2 := Lib.hid h'
    rw [hgv] at HG
    clear hgv HV HT h'
    have z0 := HB3.out.lt
    have zt := HC3.out.tb.lt
    go_wp2_with (go_at_call 43; refine (HG.out _).mono ?_; rintro e w4 ⟨rfl, f4⟩; have g1 := (f4.cell z0).trans e1; have hC4 := HC3.out.fr_ f4; have t4 := hC4.tb.ucell (t := dn) (by omega); have t5 := hC4.tb.frozen dn; have z4 := hC4.tb.lt)
    have hKs : Kept (fun k => k = bt) w4 (w4.setCell ⟨bt, dn, none⟩ (.int .u64 v)) := (Kept.refl (fun k => k = bt) w4).setCell (p := ⟨bt, dn, none⟩) (fun _ => rfl) _
    have hM4 := HM3.out.fr_ f4
    obtain ⟨how, Am, cm, hbm, _⟩ := id hM4
    go_end0
    refine ⟨rfl, ⟨vo3, hM4.kept hKs (fun e => hbm.ne_ hC4.tb (by decide) e) (fun k hk e => own_blk_ne how hC4.tb (by decide) (e ▸ hk)) (fun b hb e => by omega)⟩, ?_, ?_⟩
    · rw [← HT2.out]
      exact ⟨hC4.pb.kept hKs (hC4.pb.ne_ hC4.tb (by decide)), hC4.mb.kept hKs (hC4.mb.ne_ hC4.tb (by decide)), hC4.tb.uset dn v, hC4.rd.kept hKs (fun b hb e => by omega)⟩
    · exact (HK3.out.trans (f4.mono (fun i _ h => h.elim))).trans (hKs.mono fun i _ e => Or.inl e)
end Go.Proofs.Ytodmkjeankbieab
