/- Texts of this claim, packed. -/
import Derived.Test.YtodmkjeankbieaaGreatDoorKAllk20
import Derived.Deep.RegionHeldLaw
set_option linter.all false
namespace Go.Proofs.YtodmkjeankbieaaGreatDoor
open Go.RowKit Go.Sort

def mvsTo (l : List Mv) (k : Nat) : List Int := (l.length : Int) :: (l.take k).flatMap mvNums
theorem mvsTo_succ (l : List Mv) (k : Nat) (m : Mv) (h : l[k]? = some m) : mvsTo l (k + 1) = mvsTo l k ++ mvNums m := by
 unfold mvsTo; rw [mvs_take l k m h]; rfl
theorem mvsTo_len (l : List Mv) (k : Nat) (hk : k ≤ l.length) : (mvsTo l k).length = 1 + 9 * k := by
 have e : mvsTo l k = (l.length : Int) :: (mvsNums (l.take k)).tail := rfl
 rw [e, List.length_cons, List.length_tail, mvs_len, List.length_take]
 omega

theorem and255 (n : Int) (h : 0 ≤ n) (h2 : n < 4294967296) : bits .and .u32 n 255 = n % 256 :=
 bits_mask .u32 32 (by decide) (fun n h h' => by rw [IntKind.wrap_u32]; exact Int.emod_eq_of_lt h (by simpa using h')) 8 (by decide) n h (by simpa using h2)

theorem below_not {base g : Nat} {w : World} {n : Nat} {v : Value} {xs : List Value} (hg : base ≤ g) (h : w.ownsRow base 5 1 v n xs) : ∀ b, b < base → ¬ (b = g ∨ v.ownBlock = some b) := by
 intro b hb hs
 rcases hs with e | e
 · omega
 · have := (own_lt h e).1; omega

theorem wr_step {w wr w2 : World} {g base : Nat} {v v1 : Value} {bs : List Int} {bad : Bool} {L1 L2 L3 : List Int} {o : Obj} (hk : Kept (fun b => b = g ∨ v.ownBlock = some b) w wr) (hat : ∀ b, v1.ownBlock = some b → v.ownBlock = some b ∨ w.heap.size ≤ b)
   (h : WrPost (wr.alloc o) g base v1 (bs ++ toByte L1) (bad || !L1.all isByte) L2 w2) (he : L3 = L1 ++ L2) : WrPost w g base v bs bad L3 w2 := by
 subst he
 exact WrPost.more (hk.alloc o) hat h

set_option maxHeartbeats 1000000 in
set_option maxRecDepth 100000 in
theorem wrMoves_any (g base : Nat) (v : Value) (bs : List Int) (bad : Bool) (vl : Value) (l : List Mv) (w : World) (hw : Wr w g base v bs bad) (hr : RdMv w (fun b => b < base) vl l)
   (hg : base ≤ g) (hb : base ≤ w.heap.size) (hl : bs.length + (mvsNums l).length ≤ 140737488355328) :
   Calls Tryz.prog 40 #[.pointer (some ⟨g, 0, none⟩), vl] w fun e w' => e = .returned (.tuple #[]) ∧ WrPost w g base v bs bad (mvsNums l) w' := by
 obtain ⟨A, c, rfl, hml, hrd, ho⟩ := hr
 have hmm := mvs_len l
 unfold maxLen at hml
 go_enter Tryz.func40, Tryz.ntmps40
 go_wp2_with (go_at_call 39; refine (put_lit g base v bs bad [(l.length : Int)] _ _ 1 _ _ hw rfl rfl rfl hb (by simp; omega)).mono ?_; rintro e w1 ⟨rfl, hp1⟩)
 go_loopw [14] (fun i wr => ∃ k : Nat, k ≤ l.length ∧ i = .int .i64 k ∧ WrPost w g base v bs bad (mvsTo l k) wr) (fun i _ => l.length - (intOf i).toNat)
 case atStart => exact ⟨0, by omega, rfl, hp1⟩
 case round =>
   obtain ⟨k, hk, rfl, hinv⟩ := hrel
   obtain ⟨v1, hw1, hk1, hat1⟩ := id hinv
   by_cases hlt : k < l.length
   · have hm : l[k]? = some l[k] := List.getElem?_eq_getElem hlt
     have hok := ho _ (List.getElem_mem hlt)
     generalize l[k] = m at *
     obtain ⟨b, off, rfl, _, c0, c1, c2, c3, c4, c5⟩ := (hrd.kept hk1 (below_not hg hw.own)).mv hm
     have hz := hk1.size
     have hn1 := hok.2.2
     have H0 := Lib.hid (mvsTo_succ l k m hm)
     have hlen := mvsTo_len l k hk
     have hlen2 : (bs ++ toByte (mvsTo l k)).length = bs.length + (1 + 9 * k) := by rw [List.length_append]; simp [toByte, hlen]
     have HL := Lib.hid hlen2
     clear hok ho hrd hm hinv hlen hlen2 hp1
     rcases m with ⟨⟨tk, tn⟩, ⟨fk, fn⟩, mc, mn⟩
     simp only at c0 c1 c2 c3 c4 c5 hn1
     have a1 := and255 ((mn : Int) / 65536) (by omega) (by omega)
     have a2 := and255 ((mn : Int) / 256) (by omega) (by omega)
     have a3 := and255 (mn : Int) (by omega) (by omega)
     have hb1 : base ≤ (wr.alloc (.cells #[.int .i64 tk, .int .i64 tn, .int .i64 fk, .int .i64 fn, .bool mc, .int .u32 mn] 141)).heap.size := by simp; omega
     have hw2 : Wr (wr.alloc (.cells #[.int .i64 tk, .int .i64 tn, .int .i64 fk, .int .i64 fn, .bool mc, .int .u32 mn] 141)) g base v1 (bs ++ toByte (mvsTo l k)) (bad || !(mvsTo l k).all isByte) := ⟨hw1.blk.alloc _, World.ownsRow.alloc hw1.own _⟩
     have HW := Lib.hid hw2
     have HB := Lib.hid hb1
     clear hw2 hb1
     cases mc
     · go_wp2_with (go_at_call 39; refine (put_lit g base v1 _ _ (mvNums ⟨⟨tk, tn⟩, ⟨fk, fn⟩, false, mn⟩) _ _ 9 _ _ HW.out (by simp) rfl rfl HB.out ?_).mono ?_; (· have := HL.out; simp only [mvNums, List.length_cons, List.length_nil]; omega); rintro e w2 ⟨rfl, hp2⟩)
       go_roundw
       case rel => exact ⟨k + 1, by omega, by go_num, wr_step hk1 hat1 hp2 H0.out⟩
       case measure => simp [intOf]; omega
     · go_wp2_with (go_at_call 39; refine (put_lit g base v1 _ _ (mvNums ⟨⟨tk, tn⟩, ⟨fk, fn⟩, true, mn⟩) _ _ 9 _ _ HW.out (by simp) rfl rfl HB.out ?_).mono ?_; (· have := HL.out; simp only [mvNums, List.length_cons, List.length_nil]; omega); rintro e w2 ⟨rfl, hp2⟩)
       go_roundw
       case rel => exact ⟨k + 1, by omega, by go_num, wr_step hk1 hat1 hp2 H0.out⟩
       case measure => simp [intOf]; omega
   · obtain rfl : k = l.length := by omega
     have e : mvsTo l l.length = mvsNums l := by unfold mvsTo mvsNums; rw [List.take_length]
     rw [e] at hinv
     clear hw1 hk1 hat1
     go_wp2
     go_end0
     exact ⟨rfl, hinv⟩

def PutRes (w : World) (p : Pd) (e : Ending) (w' : World) : Prop :=
 ∃ (vb : Value) (err : Int), e = .returned (.tuple #[vb, .int .i64 err]) ∧ Fr w w' ∧
   (((pdNums p).all isByte = true ∧ err = 0 ∧ w'.ownsRow w.heap.size 5 1 vb (toByte (pdNums p)).length (byteVals (toByte (pdNums p)))) ∨
    ((pdNums p).all isByte = false ∧ err = 1 ∧ vb = .slice none 0 0))

def putW0 (w : World) (slots : Int) (vr : Value) : World := (w.alloc (.cells #[.int .i64 slots, vr] 55)).alloc (.cells #[.slice none 0 0, .bool false] 108)
theorem putW0_wr (w : World) (slots : Int) (vr : Value) : Wr (putW0 w slots vr) (w.heap.size + 1) w.heap.size (.slice none 0 0) [] false := by
 refine ⟨?_, World.ownsRow_nil _ _ _ _⟩
 have := Blk.new (w.alloc (.cells #[.int .i64 slots, vr] 55)) 108 #[.slice none 0 0, .bool false]
 simpa [putW0] using this
theorem putW0_size (w : World) (slots : Int) (vr : Value) : (putW0 w slots vr).heap.size = w.heap.size + 2 := by simp [putW0]
theorem putW0_fr (w : World) (slots : Int) (vr : Value) : Fr w (putW0 w slots vr) := ((Kept.refl _ _).alloc _).alloc _

abbrev PutS (w : World) : Nat → Prop := fun b => b = w.heap.size + 1 ∨ (Value.slice none 0 0).ownBlock = some b
theorem putS_not (w : World) : ∀ b, b < w.heap.size → ¬ PutS w b := by
 intro b hb hs
 rcases hs with e | e
 · omega
 · simp [Value.ownBlock] at e

theorem putW0_box {w w1 : World} {slots : Int} {vr : Value} {L : List Int} (h : WrPost (putW0 w slots vr) (w.heap.size + 1) w.heap.size (.slice none 0 0) [] false L w1) : w1.cell? ⟨w.heap.size, 1, none⟩ = some vr := by
 obtain ⟨_, _, hk, _⟩ := h
 have h1 : Blk (putW0 w slots vr) w.heap.size 55 #[.int .i64 slots, vr] := (Blk.new w _ _).alloc _
 have h2 := (h1.kept hk (fun e => by rcases e with e | e; (· omega); (· simp [Value.ownBlock] at e))).cell 1
 simpa using h2

theorem len_more (L : List Int) (xs : List Int) : (xs ++ toByte L).length = xs.length + L.length := by simp [toByte]

theorem len_byte (L : List Int) : ([] ++ toByte L).length = L.length := by simp [toByte]

set_option maxHeartbeats 2000000 in
set_option maxRecDepth 100000 in
theorem Put_any (v : Value) (p : Pd) (w : World) (h : RdPd w (fun b => b < w.heap.size) v p) (hb : (pdNums p).length * 8 ≤ 140737488355328) :
   Calls Tryz.prog 16 #[v] w (PutRes w p) := by
 obtain ⟨vr, l, rfl, hi, hr0, hp⟩ := h
 obtain ⟨slots, rows⟩ := p
 simp only at hp hi
 subst hp
 obtain ⟨A, c, rfl, hl, hr, ho⟩ := id hr0
 unfold maxLen at hl
 have hle0 := numsTo_le ⟨slots, l.map (·.r)⟩ 0
 have hw0 := putW0_wr w slots (.slice A l.length c)
 have hs0 := putW0_size w slots (.slice A l.length c)
 have hf0 := putW0_fr w slots (.slice A l.length c)
 have HS := Lib.hid hs0
 clear hs0
 go_enter Tryz.func16, Tryz.ntmps16
 go_wp2_with (first
   | (go_at_call 39
      refine (put_lit (w.heap.size + 1) w.heap.size (.slice none 0 0) [] false [slots, (l.length : Int)] (putW0 w slots (.slice A l.length c)) _ 2 _ _ hw0 ?_ rfl rfl ?_ ?_).mono ?_
      · rw [HS.out]
      · rw [HS.out]; omega
      · simp
      rintro e w1 ⟨rfl, hp1⟩
      have qp := putW0_box hp1))
 go_loopw [20] (fun i wr => ∃ k : Nat, k ≤ l.length ∧ i = .int .i64 k ∧ WrPost (putW0 w slots (.slice A l.length c)) (w.heap.size + 1) w.heap.size (.slice none 0 0) [] false (numsTo ⟨slots, l.map (·.r)⟩ k) wr) (fun i _ => l.length - (intOf i).toNat)
 case atStart =>
   refine ⟨0, by omega, rfl, ?_⟩
   rw [numsTo_0]
   simpa using hp1
 case round =>
   obtain ⟨k, hk, rfl, hinv⟩ := hrel
   obtain ⟨v1, hw1, hk1, hat1⟩ := id hinv
   by_cases hlt : k < l.length
   · have hm : l[k]? = some l[k] := List.getElem?_eq_getElem hlt
     have hok := ho _ (List.getElem_mem hlt)
     generalize l[k] = m at *
     have hK0 : Kept (PutS w) w wr := (Kept.of_fr hf0).trans hk1
     obtain ⟨b, off, rfl, _, c0, c1, c2, c3, c4, c5, c6, c7⟩ := (hr.kept hK0 (putS_not w)).rw hm
     obtain ⟨_, _, _, rb, ra⟩ := id hok
     have H0 := Lib.hid (numsTo_succ ⟨slots, l.map (·.r)⟩ k m.r (by simp [hm]))
     have hle : (numsTo ⟨slots, l.map (·.r)⟩ k).length + 6 + (mvsNums m.r.before).length + (mvsNums m.r.after).length ≤ (pdNums ⟨slots, l.map (·.r)⟩).length := by
       have := numsTo_le ⟨slots, l.map (·.r)⟩ (k + 1)
       rw [H0.out] at this
       simp only [List.length_append, List.length_cons, List.length_nil] at this
       omega
     have hcl := len_byte (numsTo ⟨slots, l.map (·.r)⟩ k)
     have HC := Lib.hid hcl
     have hz := hK0.size
     have hglt := hw1.blk.lt
     clear hok hm ho hr hr0 hp1 hcl hle0 hinv
     rcases m with ⟨⟨⟨dk, dn⟩, ⟨ak, an⟩, ⟨bk, bn⟩, bef, aft⟩, vb, va⟩
     simp only at c0 c1 c2 c3 c4 c5 c6 c7 rb ra hle
     obtain ⟨Ab, cb, rfl, _, _, _⟩ := id rb
     obtain ⟨Aa, ca, rfl, _, _, _⟩ := id ra
     have hwb : Wr (wr.alloc (.cells #[.int .i64 dk, .int .i64 dn, .int .i64 ak, .int .i64 an, .int .i64 bk, .int .i64 bn, .slice Ab bef.length cb, .slice Aa aft.length ca] 102)) (w.heap.size + 1) w.heap.size v1
       ([] ++ toByte (numsTo ⟨slots, l.map (·.r)⟩ k)) (false || !(numsTo ⟨slots, l.map (·.r)⟩ k).all isByte) := ⟨hw1.blk.alloc _, World.ownsRow.alloc hw1.own _⟩
     have HWb := Lib.hid hwb
     clear hwb
     go_wp2_with (first
       | (go_at_call 39
          refine (put_lit (w.heap.size + 1) w.heap.size v1 _ _ [dk, dn, ak, an, bk, bn] _ _ 6 _ _ HWb.out (by simp) rfl rfl ?_ ?_).mono ?_
          · simp; omega
          · have := HC.out; simp only [List.length_cons, List.length_nil]; omega
          rintro e w2 ⟨rfl, hp2⟩
          obtain ⟨v2, hw2, hk2, hat2⟩ := id hp2
          have hB2 := (Blk.new wr _ _).kept hk2 (fun e => by rcases e with e | e; (· omega); (· have := (own_lt hw1.own e).2; omega))
          have q6 := hB2.cell 6
          have q7 := hB2.cell 7
          simp only [List.getElem?_toArray, List.getElem?_cons_succ, List.getElem?_cons_zero] at q6 q7
          have rb2 := ((rb.kept hK0 (putS_not w)).kept ((Kept.refl (fun _ => False) wr).alloc _) (fun _ _ h => h)).kept hk2 (below_not (by omega) hw1.own)
          have ra2 := ((ra.kept hK0 (putS_not w)).kept ((Kept.refl (fun _ => False) wr).alloc _) (fun _ _ h => h)).kept hk2 (below_not (by omega) hw1.own)
          have z2 := hk2.size
          simp only [World.size_alloc] at z2)
       | (go_at_call 40
          with_reducible refine (wrMoves_any (w.heap.size + 1) w.heap.size v2 _ _ _ bef _ hw2 ?_ ?_ ?_ ?_).mono ?_
          · exact rb2
          · omega
          · omega
          · rw [len_more, HC.out]; simp only [List.length_cons, List.length_nil]; omega
          rintro e w3 ⟨rfl, hp3⟩
          obtain ⟨v3, hw3, hk3, hat3⟩ := id hp3
          have hB3 := hB2.kept hk3 (fun e => by rcases e with e | e; (· omega); (· exact own_blk_ne hw2.own hB2 (by decide) e))
          have p7 := hB3.cell 7
          simp only [List.getElem?_toArray, List.getElem?_cons_succ, List.getElem?_cons_zero] at p7
          have ra3 := ra2.kept hk3 (below_not (by omega) hw2.own)
          have z3 := hk3.size)
       | (go_at_call 40
          with_reducible refine (wrMoves_any (w.heap.size + 1) w.heap.size v3 _ _ _ aft _ hw3 ?_ ?_ ?_ ?_).mono ?_
          · exact ra3
          · omega
          · omega
          · rw [len_more, len_more, HC.out]; simp only [List.length_cons, List.length_nil]; omega
          rintro e w4 ⟨rfl, hp4⟩))
     go_roundw
     case rel =>
       refine ⟨k + 1, by omega, by go_num, ?_⟩
       have x3 := WrPost.more hk3 hat3 hp4
       have x2 := WrPost.more hk2 hat2 x3
       have x1 := WrPost.more (hk1.alloc _) hat1 x2
       rw [H0.out]
       simpa [List.append_assoc] using x1
     case measure => simp [intOf]; omega
   · obtain rfl : k = l.length := by omega
     have e : numsTo ⟨slots, l.map (·.r)⟩ l.length = pdNums ⟨slots, l.map (·.r)⟩ := by
       have := numsTo_all ⟨slots, l.map (·.r)⟩
       simpa using this
     rw [e] at hw1
     have hK0 : Kept (PutS w) w wr := (Kept.of_fr hf0).trans hk1
     have hfr : Fr w wr := hK0.mono (fun i hi hs => putS_not w i hi hs)
     have q0 := hw1.blk.cell 0
     have q1 := hw1.blk.cell 1
     have hown := hw1.own
     simp only [List.getElem?_toArray, List.getElem?_cons_succ, List.getElem?_cons_zero, Bool.false_or, List.nil_append] at q0 q1 hown
     clear hinv hw1 hk1 hat1 hp1 hr hr0 ho hw0 hf0 e
     cases hall : (pdNums ⟨slots, l.map (·.r)⟩).all isByte
     · rw [hall] at q1
       have HA := Lib.hid hall
       clear hall
       have q1' : wr.cell? ⟨w.heap.size + 1, 1, none⟩ = some (.bool true) := q1
       clear q1
       go_wp2
       go_ret2
       exact ⟨_, _, rfl, hfr, .inr ⟨HA.out, rfl, rfl⟩⟩
     · rw [hall] at q1
       have HA := Lib.hid hall
       clear hall
       have q1' : wr.cell? ⟨w.heap.size + 1, 1, none⟩ = some (.bool false) := q1
       clear q1
       go_wp2
       go_ret2
       exact ⟨_, _, rfl, hfr, .inl ⟨HA.out, rfl, hown⟩⟩
end Go.Proofs.YtodmkjeankbieaaGreatDoor


namespace Go.Proofs.YtodmkjeankbieaaGreatDoor
open Go.RowKit Go.Sort Go.Lib

structure PS where
 p : Pg
 ins : List Nat
def insI (l : List Nat) : List Int := l.map fun (n : Nat) => (n : Int)
theorem insI_len (l : List Nat) : (insI l).length = l.length := by simp [insI]
theorem u32s_insI (l : List Nat) : u32s (insI l) = u32n l := by simp [u32s, insI, u32n]
theorem insI_ok {l : List Nat} (h : ∀ n ∈ l, n < 4294967296) : ∀ n ∈ insI l, 0 ≤ n ∧ n < 4294967296 := by
 intro n hn
 obtain ⟨m, hm, rfl⟩ := List.mem_map.1 hn
 have := h m hm
 omega
def okT : Tx := [111, 107]
def badT : Tx := [98, 97, 100]
def narrowT : Tx := [110, 97, 114, 114, 111, 119]
def wideT : Tx := [119, 105, 100, 101]
def nearT : Tx := [110, 101, 97, 114]
def codeT : Tx := [99, 111, 100, 101]
def insT : Tx := [105, 110, 115]
def runT : Tx := [114, 117, 110]
def onT : Tx := [111, 110]
def bytesT : Tx := [98, 121, 116, 101, 115]
def aheadM (M : List (List Bool)) : Nat → Nat
 | 0 => 0
 | a + 1 => aheadM M a + ((M.getD a []).take a).count true
theorem aheadM_le (M : List (List Bool)) : ∀ a, aheadM M a ≤ a * a
 | 0 => Nat.le_refl _
 | a + 1 => by
   have h1 := aheadM_le M a
   have h2 : ((M.getD a []).take a).count true ≤ a := Nat.le_trans List.count_le_length (by rw [List.length_take]; omega)
   have h3 : (a + 1) * (a + 1) = a * a + a + (a + 1) := by rw [Nat.mul_add, Nat.add_mul, Nat.mul_one, Nat.one_mul]
   unfold aheadM
   omega
def inOf (l : List Nat) : In := ⟨(l.getD 0 0 : Nat), (l.getD 1 0 : Nat), (l.getD 2 0 : Nat), (l.getD 3 0 : Nat), (l.getD 4 0 : Nat), l.getD 5 0⟩
def tempF (g : PS) (b : Bool) : PS × Tx := if 12 ≤ g.p.wide.length then (g, [63]) else (⟨⟨g.p.wide ++ [b], g.p.code⟩, g.ins⟩, saidF okT [g.p.wide.length + 1])
noncomputable def nearF (g : PS) : Tx := if mayB g.p = false then saidF badT [2] else decDigits (aheadM (nearM g.p) g.p.wide.length)
def addF (g : PS) (l : List Nat) : PS × Tx := if 40 ≤ g.p.code.length then (g, [63]) else (⟨⟨g.p.wide, g.p.code ++ [inOf l]⟩, g.ins⟩, saidF okT [g.p.code.length + 1])
def runF (g : PS) (n : Nat) : Tx := shownF (wrongV g.p g.ins.length (n : Int)) (runV g.p (insI g.ins) n)
noncomputable def onF (g : PS) (s n : Nat) : Tx :=
 if (mayB g.p && tgB (s : Int)) = false then saidF badT [2] else shownF (dWrong g.p (s : Int) (buildF g.p (s : Int)) g.ins.length (n : Int)) (doneV g.p (buildF g.p (s : Int)).rows (insI g.ins) n)
noncomputable def bytesF (g : PS) (s : Nat) : Tx :=
 if (mayB g.p && tgB (s : Int)) = false then saidF badT [2] else if (pdNums (buildF g.p (s : Int))).all isByte = true then decDigits (pdNums (buildF g.p (s : Int))).length else saidF badT [1]
noncomputable def armF (g : PS) (s x : Tx) (l : List Nat) : PS × Tx :=
 if s = narrowT ∨ s = wideT then tempF g (decide (s = wideT))
 else if s = nearT then (g, nearF g)
 else if x = codeT ∧ l.length = 6 then addF g l
 else if x = insT then (⟨g.p, l⟩, saidF okT [l.length])
 else if x = runT ∧ l.length = 1 then (g, runF g (l.getD 0 0))
 else if x = onT ∧ l.length = 2 then (g, onF g (l.getD 0 0) (l.getD 1 0))
 else if x = bytesT ∧ l.length = 1 then (g, bytesF g (l.getD 0 0))
 else (g, [63])
noncomputable def lineF (g : PS) (s : Tx) : PS × Tx :=
 match numsF (partsL 32 s).tail with
 | none => (g, [63])
 | some l => armF g s ((partsL 32 s).headD []) l

def linesF (s : Tx) : List Tx := if (partsL 10 s).getLast? = some [] then (partsL 10 s).dropLast else partsL 10 s
noncomputable def playTo : List Tx → PS × Tx → PS × Tx
 | [], z => z
 | s :: r, z => playTo r ((lineF z.1 s).1, z.2 ++ (lineF z.1 s).2 ++ [10])
theorem playTo_snoc (l : List Tx) (s : Tx) (z : PS × Tx) : playTo (l ++ [s]) z = ((lineF (playTo l z).1 s).1, (playTo l z).2 ++ (lineF (playTo l z).1 s).2 ++ [10]) := by
 induction l generalizing z with
 | nil => rfl
 | cons x r ih => exact ih _
def ps0 : PS := ⟨⟨[], []⟩, []⟩
noncomputable def playF (s : Tx) : Tx := (playTo ((linesF s).take 60) (ps0, [])).2

theorem run_ok {σ : Type} {code : List In} {M : Mach σ} : ∀ (n : Nat) (x : Sh × σ), x.1.state ≤ 2 → (∀ m ∈ x.1.out, 0 ≤ m ∧ m < 4294967296) →
   (mRun code M n x).1.state ≤ 2 ∧ (mRun code M n x).1.steps ≤ x.1.steps + n ∧ ∀ m ∈ (mRun code M n x).1.out, 0 ≤ m ∧ m < 4294967296
 | 0, x, h1, h2 => ⟨h1, Nat.le_refl _, h2⟩
 | n + 1, x, h1, h2 => by
   rw [mRun]
   split
   · have hs : (mStep code M x).1.state ≤ 2 := by
       unfold mStep shStep stV
       simp only
       split
       · omega
       · split <;> omega
     have ho : ∀ m ∈ (mStep code M x).1.out, 0 ≤ m ∧ m < 4294967296 := by
       unfold mStep shStep
       simp only
       split
       · intro m hm
         rcases List.mem_append.1 hm with hm | hm
         · exact h2 m hm
         · rw [List.mem_singleton] at hm
           subst hm
           omega
       · exact h2
     obtain ⟨k1, k2, k3⟩ := run_ok n _ hs ho
     refine ⟨k1, ?_, k3⟩
     have : (mStep code M x).1.steps = x.1.steps + 1 := rfl
     omega
   · exact ⟨h1, by omega, h2⟩
theorem runV_shok {p : Pg} {ins : List Int} {n : Nat} (hn : n ≤ 4000) : ShOk (runV p ins n) := by
 obtain ⟨h1, h2, h3⟩ := run_ok (code := p.code) (M := mTemps p) n (sh0 ins, fun _ => 0) (by simp [sh0]) (by simp [sh0])
 have h2 : _ ≤ 0 + n := h2
 refine ⟨?_, ?_, h3⟩
 · show (mRun _ _ _ _).1.state < _; omega
 · show (mRun _ _ _ _).1.steps < _; omega
theorem doneV_shok {p : Pg} {rows : List Rw} {ins : List Int} {n : Nat} (hn : n ≤ 4000) : ShOk (doneV p rows ins n) := by
 obtain ⟨h1, h2, h3⟩ := run_ok (code := p.code) (M := mPlaces p rows) n (sh0 ins, ⟨fun _ => 0, fun _ => 0⟩) (by simp [sh0]) (by simp [sh0])
 have h2 : _ ≤ 0 + n := h2
 refine ⟨?_, ?_, h3⟩
 · show (mRun _ _ _ _).1.state < _; omega
 · show (mRun _ _ _ _).1.steps < _; omega
end Go.Proofs.YtodmkjeankbieaaGreatDoor


namespace Go.Proofs.YtodmkjeankbieaaGreatDoor
open Go.RowKit Go.Sort Go.Lib

theorem slU32d : SlTy Tryz.prog 29 35 1 4 := SlTy.mk' (z := .int .u32 0) Tryz.underlying29 (by kernel_rfl) rfl (by decide)
theorem u32n_snoc (l : List Nat) (u : Nat) : u32n (l ++ [u]) = u32n l ++ [.int .u32 (u : Int)] := by simp [u32n]
theorem bA_beq_t {a b : Tx} (h : a = b) : ((bA a).toList == (bA b).toList) = true := by rw [h]; exact beq_self_eq_true _
theorem bA_beq_f {a b : Tx} (h : a ≠ b) : ((bA a).toList == (bA b).toList) = false := by
 rw [Lib.toList_data, Lib.toList_data]
 exact beq_false_of_ne h
def NumsPost (w : World) (ws : List Tx) (e : Ending) (w' : World) : Prop :=
 Fr w w' ∧ ((numsF ws = none ∧ e = .returned (.tuple #[.slice none 0 0, .bool false])) ∨ (∃ l v, numsF ws = some l ∧ e = .returned (.tuple #[v, .bool true]) ∧ w'.ownsRow w.heap.size 35 1 v l.length (u32n l)))
set_option maxHeartbeats 3200000 in
set_option maxRecDepth 100000 in
theorem numbers_any (R : Nat → Prop) (ws : List Tx) (hws : ∀ x ∈ ws, x.length < 4294967296) (hlen : ws.length < 4294967300) (A : Option Addr) (c : Nat) (w : World) (hr : Reads w R 1 A ws.length (txs ws)) (hv : Env w) :
   Calls Tryz.prog 42 #[.slice A ws.length c] w (NumsPost w ws) := by
 have HR := Lib.hid hr
 have HW := Lib.hid hws
 have HV := Lib.hid hv
 clear hr hws hv
 go_enter Tryz.func42, Tryz.ntmps42
 go_wp2
 go_loopw [11, 4] (fun i v wr => ∃ (k : Nat) (ns : List Nat), k ≤ ws.length ∧ i = .int .i64 k ∧ Hid (numsF (ws.take k) = some ns) ∧ Hid (wr.ownsRow w.heap.size 35 1 v ns.length (u32n ns)) ∧ Hid (Fr w wr)) (fun i _ _ => ws.length - (intOf i).toNat)
 case atStart => exact ⟨0, [], by omega, rfl, rfl, World.ownsRow_nil _ _ _ _, Kept.refl _ w⟩
 case round =>
   obtain ⟨k, ns, hk, rfl, hto, ho, hf⟩ := hrel
   have hsw := hf.out.size
   have hnl : ns.length = k := by have := numsF_len hto.out; rw [List.length_take] at this; omega
   by_cases hlt : k < ws.length
   · have hx : ws[k]? = some ws[k] := List.getElem?_eq_getElem hlt
     have hm := HW.out _ (List.getElem_mem hlt)
     generalize ws[k] = x at *
     obtain ⟨b, off, rfl, _, hc⟩ := (HR.out.kept hf.out (fun _ _ h => h)).2 (by omega)
     have d0 := hc k (.string (bA x)) (by unfold txs; rw [List.getElem?_map, hx]; rfl)
     have hb := cell_lt d0
     have HX := Lib.hid hx
     have HP := Lib.hid (parseU_any x hm wr (HV.out.kept hf.out))
     have HM := Lib.hid hm
     clear hc hx hm
     go_wp2_with fail
     refine HP.out.mono ?_
     rintro e w1 ⟨f1, ⟨u, hu, rfl⟩ | ⟨hno, n, t, q, rfl⟩⟩
     · have HF1 := Lib.hid (hf.out.trans f1)
       have hul := parse_lt hu
       have HU := Lib.hid hu
       have HO1 := Lib.hid (show w1.ownsRow w.heap.size 35 1 u4 ns.length (u32n ns) from own_kept ho.out f1 (fun _ _ h => h))
       have HFU := Lib.hid (fmtU_any u (by omega) w1 (HV.out.kept HF1.out))
       clear f1 hu ho hf
       go_wp2_with fail
       refine HFU.out.mono ?_
       rintro e w2 ⟨rfl, f2⟩
       have HF2 := Lib.hid (HF1.out.trans f2)
       have HO2 := Lib.hid (show w2.ownsRow w.heap.size 35 1 u4 ns.length (u32n ns) from own_kept HO1.out f2 (fun _ _ h => h))
       clear f2
       have hw2 := HF2.out.size
       by_cases hd : decDigits u = x
       · have hq := bA_beq_t hd
         have HN := Lib.hid (show numsF (ws.take (k + 1)) = some (ns ++ [u]) from by
           rw [List.take_add_one, HX.out]
           exact numsF_snoc hto.out (numF_ok HU.out hd))
         go_wp2_with (first
           | (at_builtin
              refine wpList_app (base := w.heap.size) _ rfl slU32d (.tmp 28) (.tmp 31) rfl u4 _ _ rfl (World.ownsRow.alloc HO2.out _) (fun _ => True) _ 1 1 [.int .u32 (u : Int)] rfl (Reads.lit' (by simp) trivial rfl) ?_ ?_ ?_ ?_ ?_
              · simp [Value.oneCell']
              · omega
              · unfold maxLen; omega
              · simp; omega
              intro v7 w7 hown7 hk7 _
              have HO7 := Lib.hid (show w7.ownsRow w.heap.size 35 1 v7 (ns ++ [u]).length (u32n (ns ++ [u])) from by rw [List.length_append, List.length_singleton, u32n_snoc]; exact hown7)
              have HF7 := Lib.hid ((HF2.out.alloc _).app (World.ownsRow.alloc HO2.out _) hk7)
              clear hown7 hk7)
           | go_in)
         go_roundw
         case rel => exact ⟨k + 1, _, by omega, by go_num, HN, HO7, HF7⟩
         case measure => simp [intOf]; omega
       · have hq := bA_beq_f hd
         have HN := Lib.hid (numsF_no HX.out (numF_ne HU.out hd))
         go_wp2
         go_ret2
         exact ⟨HF2.out, .inl ⟨HN.out, rfl⟩⟩
     · have HN := Lib.hid (numsF_no HX.out (numF_bad hno))
       have HF1 := Lib.hid (hf.out.trans f1)
       clear hno f1
       go_wp2
       go_ret2
       exact ⟨HF1.out, .inl ⟨HN.out, rfl⟩⟩
   · obtain rfl : k = ws.length := by omega
     have HT := Lib.hid (show numsF ws = some ns from by have := hto.out; rwa [List.take_length] at this)
     go_wp2
     go_ret2
     exact ⟨hf.out, .inr ⟨ns, _, HT.out, rfl, ho.out⟩⟩
end Go.Proofs.YtodmkjeankbieaaGreatDoor


namespace Go.Proofs.YtodmkjeankbieaaGreatDoor
open Go.RowKit Go.Sort Go.Lib

theorem slBoolD : SlTy Tryz.prog 25 4 1 1 := SlTy.mk' (z := .bool false) Tryz.underlying25 (by kernel_rfl) rfl (by decide)
theorem slInsD : SlTy Tryz.prog 26 45 6 48 := SlTy.mk' (z := .agg #[.int .i64 0, .int .i64 0, .int .i64 0, .int .i64 0, .int .i64 0, .int .u32 0]) Tryz.underlying26 (by kernel_rfl) rfl (by decide)
theorem own_two_ne {w : World} {base e e' size size' n n' : Nat} {v v' : Value} {xs xs' : List Value} (h : w.ownsRow base e size v n xs) (h' : w.ownsRow base e' size' v' n' xs') (hne : e ≠ e') : ∀ k, v.ownBlock = some k → v'.ownBlock = some k → False := by
 intro k hk hk'
 rcases h.2 with ⟨rfl, _⟩ | ⟨g, cap, cur, rfl, _, hh, _⟩
 · simp [Value.ownBlock] at hk
 · rcases h'.2 with ⟨rfl, _⟩ | ⟨g', cap', cur', rfl, _, hh', _⟩
   · simp [Value.ownBlock] at hk'
   · have e1 : g = k := by simpa [Value.ownBlock] using hk
     have e2 : g' = k := by simpa [Value.ownBlock] using hk'
     subst e1 e2
     rw [hh] at hh'
     injection hh' with hh'
     injection hh' with _ ht
     exact hne ht
def PlTy (ty : TypeId) : Prop := 4 ≠ ty ∧ 45 ≠ ty ∧ 35 ≠ ty
theorem plTyD : PlTy 65 := ⟨by decide, by decide, by decide⟩
theorem plTyK : PlTy 31 := ⟨by decide, by decide, by decide⟩
structure PlM (w : World) (base r : Nat) (ty : TypeId) (vw vc vi : Value) (g : PS) : Prop where
 hty : PlTy ty
 blk : Blk w r ty #[vw, vc, vi]
 hb : base ≤ r
 ow : w.ownsRow base 4 1 vw g.p.wide.length (g.p.wide.map Value.bool)
 oc : w.ownsRow base 45 6 vc g.p.code.length (g.p.code.flatMap In.cells)
 oi : w.ownsRow base 35 1 vi g.ins.length (u32n g.ins)
 okc : ∀ m ∈ g.p.code, m.ok
 oki : ∀ n ∈ g.ins, n < 4294967296
section
variable {w w' : World} {base r : Nat} {ty : TypeId} {vw vc vi : Value} {g : PS}
theorem PlM.fr (h : PlM w base r ty vw vc vi g) (k : Fr w w') : PlM w' base r ty vw vc vi g :=
 ⟨h.hty, h.blk.kept k (fun h => h), h.hb, own_kept h.ow k (fun _ _ h => h), own_kept h.oc k (fun _ _ h => h), own_kept h.oi k (fun _ _ h => h), h.okc, h.oki⟩
theorem own_cap {base : Nat} {e : TypeId} {size n : Nat} {v : Value} {xs : List Value} (h : w.ownsRow base e size v n xs) : ∃ A c, v = .slice A n c ∧ n ≤ c ∧ c ≤ maxLen ∧ Reads w (fun _ => True) size A n xs := by
 obtain ⟨A, c, e1, hn, hr⟩ := own_reads h
 refine ⟨A, c, e1, ?_, ?_, hr.more (fun _ _ => trivial)⟩
 · rcases h.2 with ⟨rfl, hz⟩ | ⟨g, cap, cur, rfl, _, _, h1, h2, _⟩
   · omega
   · injection e1 with _ _ e1; omega
 · rcases h.2 with ⟨rfl, hz⟩ | ⟨g, cap, cur, rfl, _, _, h1, h2, _⟩
   · injection e1 with _ _ e1; subst e1; simp
   · injection e1 with _ _ e1; omega
theorem PlM.rd (h : PlM w base r ty vw vc vi g) : RdPg w (fun _ => True) (.agg #[vw, vc]) g.p := by
 obtain ⟨A1, c1, e1, _, _, r1⟩ := own_cap h.ow
 obtain ⟨A2, c2, e2, _, _, r2⟩ := own_cap h.oc
 obtain ⟨_, _, _, n1, _⟩ := own_reads h.ow
 obtain ⟨_, _, _, n2, _⟩ := own_reads h.oc
 exact ⟨vw, vc, rfl, ⟨A1, c1, e1, n1, r1⟩, ⟨A2, c2, e2, n2, r2, h.okc⟩⟩
theorem PlM.putW (h : PlM w base r ty vw vc vi g) {v : Value} {b : Bool} (ho : w'.ownsRow base 4 1 v (g.p.wide.length + 1) (g.p.wide.map Value.bool ++ [.bool b])) (hk : Kept (fun k => vw.ownBlock = some k) w w') :
   PlM (w'.setCell ⟨r, 0, none⟩ v) base r ty v vc vi ⟨⟨g.p.wide ++ [b], g.p.code⟩, g.ins⟩ := by
 have hb1 := h.blk.kept hk (own_blk_ne h.ow h.blk h.hty.1)
 have hs := (Kept.refl (fun k => k = r) w').setCell (p := ⟨r, 0, none⟩) (fun _ => rfl) v
 have o1 := own_kept h.oc hk (fun g1 h1 h2 => own_two_ne h.ow h.oc (by decide) g1 h2 h1)
 have o2 := own_kept h.oi hk (fun g1 h1 h2 => own_two_ne h.ow h.oi (by decide) g1 h2 h1)
 refine ⟨h.hty, hb1.set_ 0 v, h.hb, ?_, own_kept o1 hs (fun g1 h1 h2 => own_blk_ne o1 hb1 h.hty.2.1 (h2 ▸ h1)), own_kept o2 hs (fun g1 h1 h2 => own_blk_ne o2 hb1 h.hty.2.2 (h2 ▸ h1)), h.okc, h.oki⟩
 have o3 := own_kept ho hs (fun g1 h1 h2 => own_blk_ne ho hb1 h.hty.1 (h2 ▸ h1))
 simpa using o3
theorem PlM.putC (h : PlM w base r ty vw vc vi g) {v : Value} {i : In} (hi : i.ok) (ho : w'.ownsRow base 45 6 v (g.p.code.length + 1) (g.p.code.flatMap In.cells ++ i.cells)) (hk : Kept (fun k => vc.ownBlock = some k) w w') :
   PlM (w'.setCell ⟨r, 1, none⟩ v) base r ty vw v vi ⟨⟨g.p.wide, g.p.code ++ [i]⟩, g.ins⟩ := by
 have hb1 := h.blk.kept hk (own_blk_ne h.oc h.blk h.hty.2.1)
 have hs := (Kept.refl (fun k => k = r) w').setCell (p := ⟨r, 1, none⟩) (fun _ => rfl) v
 have o1 := own_kept h.ow hk (fun g1 h1 h2 => own_two_ne h.oc h.ow (by decide) g1 h2 h1)
 have o2 := own_kept h.oi hk (fun g1 h1 h2 => own_two_ne h.oc h.oi (by decide) g1 h2 h1)
 refine ⟨h.hty, hb1.set_ 1 v, h.hb, own_kept o1 hs (fun g1 h1 h2 => own_blk_ne o1 hb1 h.hty.1 (h2 ▸ h1)), ?_, own_kept o2 hs (fun g1 h1 h2 => own_blk_ne o2 hb1 h.hty.2.2 (h2 ▸ h1)), ?_, h.oki⟩
 · have o3 := own_kept ho hs (fun g1 h1 h2 => own_blk_ne ho hb1 h.hty.2.1 (h2 ▸ h1))
   simpa using o3
 · intro m hm
   rcases List.mem_append.1 hm with hm | hm
   · exact h.okc m hm
   · rw [List.mem_singleton] at hm; rw [hm]; exact hi
theorem PlM.putI (h : PlM w base r ty vw vc vi g) {v : Value} {l : List Nat} (ho : w.ownsRow base 35 1 v l.length (u32n l)) (hl : ∀ n ∈ l, n < 4294967296) :
   PlM (w.setCell ⟨r, 2, none⟩ v) base r ty vw vc v ⟨g.p, l⟩ := by
 have hs := (Kept.refl (fun k => k = r) w).setCell (p := ⟨r, 2, none⟩) (fun _ => rfl) v
 exact ⟨h.hty, h.blk.set_ 2 v, h.hb, own_kept h.ow hs (fun g1 h1 h2 => own_blk_ne h.ow h.blk h.hty.1 (h2 ▸ h1)), own_kept h.oc hs (fun g1 h1 h2 => own_blk_ne h.oc h.blk h.hty.2.1 (h2 ▸ h1)),
   own_kept ho hs (fun g1 h1 h2 => own_blk_ne ho h.blk h.hty.2.2 (h2 ▸ h1)), h.okc, hl⟩
end
theorem sayI1x (s : Tx) (b : ByteArray) (hb : b = bA s) (n : Nat) (x : Int) (hx : x = (n : Int)) (hn : n < 9223372036854775808) (hs : s.length < 9223372036854774000) (w0 : World) (hv : Env w0) (g : Nat) (hg : g = w0.heap.size) :
   Calls Tryz.prog 45 #[.string b, .slice (some ⟨g, 0, none⟩) 1 1] (w0.alloc (.cells #[.int .i64 x] 3)) fun e w' => e = .returned (.string (bA (saidF s [n]))) ∧ Fr w0 w' := by
 subst hx
 exact sayI1 s b hb n hn hs w0 hv g hg
def LinePost (wB : World) (r : Nat) (ty : TypeId) (z : PS × Tx) (e : Ending) (w' : World) : Prop :=
 e = .returned (.string (bA z.2)) ∧ Fr wB w' ∧ ∃ vw vc vi, PlM w' wB.heap.size r ty vw vc vi z.1

set_option maxHeartbeats 3200000 in
set_option maxRecDepth 100000 in
theorem dtemp_any (wB w : World) (r : Nat) (vw vc vi : Value) (g : PS) (b : Bool) (hB : Fr wB w) (hm : PlM w wB.heap.size r 65 vw vc vi g) (hv : Env wB) (hl : g.p.wide.length ≤ 12) :
   Calls Tryz.prog 43 #[.pointer (some ⟨r, 0, none⟩), .bool b] w (LinePost wB r 65 (tempF g b)) := by
 have HM := Lib.hid hm
 have HB := Lib.hid hB
 have HV := Lib.hid hv
 obtain ⟨A1, c1, rfl, _, _, _⟩ := own_cap hm.ow
 have p0 := hm.blk.cell 0
 have z0 := hm.blk.lt
 simp only [List.getElem?_toArray, List.getElem?_cons_succ, List.getElem?_cons_zero] at p0
 have hsB := hB.size
 clear hm hB hv
 by_cases h12 : 12 ≤ g.p.wide.length
 · have HE : Hid (tempF g b = (g, [63])) := by show _ = _; unfold tempF; rw [if_pos h12]
   go_enter Tryz.func43, Tryz.ntmps43
   go_wp2
   go_ret
   rw [HE.out]
   exact ⟨rfl, HB.out, _, _, _, HM.out⟩
 · have HE : Hid (tempF g b = (⟨⟨g.p.wide ++ [b], g.p.code⟩, g.ins⟩, saidF okT [g.p.wide.length + 1])) := by show _ = _; unfold tempF; rw [if_neg h12]
   go_enter Tryz.func43, Tryz.ntmps43
   go_wp2_with (first
     | (at_builtin
        refine wpList_app (base := wB.heap.size) _ rfl slBoolD (.tmp 17) (.tmp 19) rfl (.slice A1 g.p.wide.length c1) _ _ rfl (World.ownsRow.alloc HM.out.ow _) (fun _ => True) _ 1 1 [.bool b] rfl (Reads.lit' (by simp) trivial rfl) ?_ ?_ ?_ ?_ ?_
        · simp [Value.oneCell']
        · omega
        · unfold maxLen; omega
        · simp; omega
        intro v7 w7 hown7 hk7 _
        have hk8 := (((Kept.refl (fun k => (Value.slice A1 g.p.wide.length c1).ownBlock = some k) w).alloc (.cells #[.bool b] 4)).trans hk7)
        have HP7 := Lib.hid (HM.out.putW hown7 hk8)
        have HF7 := Lib.hid ((HB.out.alloc _).app (World.ownsRow.alloc HM.out.ow _) hk7)
        have hb7 := HM.out.blk.kept hk8 (own_blk_ne HM.out.ow HM.out.blk HM.out.hty.1)
        have y7 := hb7.frozen 0
        have z7 := hb7.lt
        have p7 := hb7.cell 0
        simp only [List.getElem?_toArray, List.getElem?_cons_succ, List.getElem?_cons_zero] at p7
        have HF8 := Lib.hid (HF7.out.setCell (p := ⟨r, 0, none⟩) (fun h => absurd h (Nat.not_lt.2 HM.out.hb)) v7)
        obtain ⟨A7, c7, rfl, _⟩ := own_reads hown7
        have HS := Lib.hid (sayI1x okT ⟨#[111, 107]⟩ rfl (g.p.wide.length + 1) ((g.p.wide.length : Int) + 1) (by omega) (by omega) (by decide) (w7.setCell ⟨r, 0, none⟩ (.slice A7 (g.p.wide.length + 1) c7)) (HV.out.kept HF8.out) w7.heap.size (by simp [World.setCell]))
        clear hown7 hk7 hk8 hb7)
     | fail)
   refine HS.out.mono ?_
   rintro e w9 ⟨rfl, f9⟩
   have HP9 := Lib.hid (HP7.out.fr f9)
   have HF9 := Lib.hid (HF8.out.trans f9)
   clear f9
   go_wp2
   go_ret
   rw [HE.out]
   exact ⟨rfl, HF9.out, _, _, _, HP9.out⟩
end Go.Proofs.YtodmkjeankbieaaGreatDoor


namespace Go.Proofs.YtodmkjeankbieaaGreatDoor
open Go.RowKit Go.Sort Go.Lib

theorem saidF_cons (a : UInt8) (s : Tx) (l : List Nat) : saidF (a :: s) l = a :: saidF s l := by
 induction l generalizing s with
 | nil => rfl
 | cons n l ih => exact ih (s ++ 32 :: decDigits n)
theorem trim_said (x : Sh) : trimPrefix (saidF (saidF [] [x.state, x.steps]) (x.out.map Int.toNat)) [32] = shownF 0 x := by
 have e : saidF [] [x.state, x.steps] = 32 :: saidF (decDigits x.state) [x.steps] := by
   show saidF (([] : Tx) ++ 32 :: decDigits x.state) [x.steps] = _
   rw [List.nil_append, saidF_cons]
 rw [e, saidF_cons]
 have hp : ∀ t : Tx, hasPrefix (32 :: t) [32] = true := fun t => by simp [hasPrefix]
 unfold trimPrefix
 rw [if_pos (hp _)]
 unfold shownF
 rw [if_neg (by simp)]
 rfl
theorem u32s_nat {l : List Int} (h : ∀ n ∈ l, 0 ≤ n ∧ n < 4294967296) : u32s l = u32n (l.map Int.toNat) := by
 unfold u32s u32n
 rw [List.map_map]
 apply List.map_congr_left
 intro n hn
 have := (h n hn).1
 simp only [Function.comp]
 rw [Int.toNat_of_nonneg this]
set_option maxHeartbeats 6400000 in
set_option maxRecDepth 100000 in
theorem dshown_any (R : Nat → Prop) (wr : Int) (h0 : 0 ≤ wr) (h1 : wr < 4294967296) (v : Value) (x : Sh) (w : World) (h : RdSh w R v x) (ho : ShOk x) (hv : Env w) :
   Calls Tryz.prog 46 #[v, .int .i64 wr] w fun e w' => e = .returned (.string (bA (shownF wr x))) ∧ Fr w w' := by
 obtain ⟨A, c, rfl, hl, hr⟩ := h
 have HR := Lib.hid hr
 have HO := Lib.hid ho
 have HV := Lib.hid hv
 clear hr ho hv
 obtain ⟨W, rfl⟩ : ∃ W : Nat, (W : Int) = wr := ⟨wr.toNat, by omega⟩
 have HF0 := Lib.hid (show Fr w (w.alloc (.cells #[.int .i64 (x.state : Int), .slice A x.out.length c, .int .i64 (x.steps : Int)] 47)) from (Kept.refl _ w).alloc _)
 have HB0 := Lib.hid (Blk.new w 47 #[.int .i64 (x.state : Int), .slice A x.out.length c, .int .i64 (x.steps : Int)])
 by_cases hw : W = 0
 · subst hw
   have HE := Lib.hid (trim_said x)
   have hst : ¬ ((0 : Int) ≠ 0) := by simp
   have c0 := HB0.out.cell 0
   have c1 := HB0.out.cell 1
   have c2 := HB0.out.cell 2
   simp only [List.getElem?_toArray, List.getElem?_cons_succ, List.getElem?_cons_zero] at c0 c1 c2
   have hg0 : (w.alloc (.cells #[.int .i64 (x.state : Int), .slice A x.out.length c, .int .i64 (x.steps : Int)] 47)).drew.heap.size = w.heap.size + 1 := by simp [World.drew]
   have HFD := Lib.hid ((HF0.out.drew).alloc (.cells #[.int .i64 (x.state : Int), .int .i64 (x.steps : Int)] 3))
   have hs1 := HO.out.1
   have hs2 := HO.out.2.1
   have HS1 := Lib.hid (sayI_any (fun _ => True) [] [x.state, x.steps] (by simp; omega) (by simp) (some ⟨w.heap.size + 1, 0, none⟩) 2 ((w.alloc (.cells #[.int .i64 (x.state : Int), .slice A x.out.length c, .int .i64 (x.steps : Int)] 47)).drew.alloc (.cells #[.int .i64 (x.state : Int), .int .i64 (x.steps : Int)] 3)) (Reads.lit' (cs := #[.int .i64 (x.state : Int), .int .i64 (x.steps : Int)]) (n := 2) (size := 1) hg0.symm trivial rfl) (HV.out.kept HFD.out))
   have hlen : (saidF [] [x.state, x.steps]).length ≤ 100 := by
     have := saidF_len [] [x.state, x.steps] (by simp; omega)
     simp at this
     omega
   have HS2 := Lib.hid (fun w2 (f2 : Fr w w2) => sayU_any R (saidF [] [x.state, x.steps]) (x.out.map Int.toNat) (fun n hn => by
     obtain ⟨m, hm, rfl⟩ := List.mem_map.1 hn
     have := HO.out.2.2 m hm
     omega) (by rw [List.length_map]; omega) A c w2 (by rw [List.length_map, ← u32s_nat HO.out.2.2]; exact HR.out.kept f2 (fun _ _ h => h)) (HV.out.kept f2))
   rw [List.length_map] at HS2
   clear hs1 hs2 h0 h1
   go_enter Tryz.func46, Tryz.ntmps46
   go_wp2
   go_region_held_law (fun w' => w'.cell? ⟨w.heap.size, 0, none⟩ = some (.int .i64 (x.state : Int)) ∧ w'.cell? ⟨w.heap.size, 1, none⟩ = some (.slice A x.out.length c) ∧ w'.cell? ⟨w.heap.size, 2, none⟩ = some (.int .i64 (x.steps : Int))) (first | go_keep | exact sa | exact sb)
     (first
       | (go_at_call 45; refine HS1.out.mono ?_; rintro e w1 ⟨rfl, f1⟩; have HF1 := Lib.hid (HFD.out.trans f1); have hb1 := ((HB0.out.drew.alloc (.cells #[.int .i64 (x.state : Int), .int .i64 (x.steps : Int)] 3)).kept f1 (fun h => h)); have sa := And.intro (hb1.cell 0) (And.intro (hb1.cell 1) (hb1.cell 2)); simp only [List.getElem?_toArray, List.getElem?_cons_succ, List.getElem?_cons_zero] at sa; have HB1 := Lib.hid hb1; clear hb1 f1)
       | (go_at_call 74; refine (HS2.out _ HF1.out).mono ?_; rintro e w2 ⟨rfl, f2⟩; have HF2 := Lib.hid (HF1.out.trans f2); have hb2 := (HB1.out.kept f2 (fun h => h)); have sb := And.intro (hb2.cell 0) (And.intro (hb2.cell 1) (hb2.cell 2)); simp only [List.getElem?_toArray, List.getElem?_cons_succ, List.getElem?_cons_zero] at sb; clear hb2 f2)
       | (go_at_call 73; refine (Tryz.strings_TrimPrefix _ _ _).mono ?_; rintro e w3 ⟨rfl, rfl⟩))
   all_goals
     go_wp2
     go_ret
     refine ⟨?_, HF2.out⟩
     show Ending.returned (.string ⟨(trimPrefix (saidF (saidF [] [x.state, x.steps]) (x.out.map Int.toNat)) [32]).toArray⟩) = _
     rw [HE.out]
     rfl
 · have HE : Hid (shownF (W : Int) x = saidF [98, 97, 100] [W]) := by
     show _ = _
     unfold shownF
     rw [if_pos (by simpa using hw)]; rfl
   have hwn : ((W : Int) == 0) = false := beq_false_of_ne (by omega)
   have HS := Lib.hid (sayI1 [98, 97, 100] ⟨#[98, 97, 100]⟩ rfl W (by omega) (by simp) (w.alloc (.cells #[.int .i64 (x.state : Int), .slice A x.out.length c, .int .i64 (x.steps : Int)] 47)) (HV.out.kept HF0.out) (w.heap.size + 1) (by simp))
   clear h0 h1
   go_enter Tryz.func46, Tryz.ntmps46
   go_wp2_with fail
   refine HS.out.mono ?_
   rintro e w2 ⟨rfl, f2⟩
   have HF2 := Lib.hid (HF0.out.trans f2)
   clear f2
   go_wp2
   go_ret
   exact ⟨by rw [HE.out]; rfl, HF2.out⟩
end Go.Proofs.YtodmkjeankbieaaGreatDoor


namespace Go.Proofs.YtodmkjeankbieaaGreatDoor
open Go.RowKit Go.Sort Go.Lib

theorem build_no {R : Nat → Prop} {v : Value} {p : Pg} {sg : Int} {w : World} (h : RdPg w R v p) (hb : (mayB p && tgB sg) = false) :
   Calls Tryz.prog 14 #[v, tgV sg] w fun e w' => e = .returned (.tuple #[.agg #[.int .i64 0, .slice none 0 0], .int .i64 2]) ∧ Fr w w' := by
 refine (build_any R v p sg w h).mono ?_
 rintro e w' ⟨f, ⟨_, he⟩ | ⟨h1, h2, _⟩⟩
 · exact ⟨he, f⟩
 · rw [h1, h2] at hb; cases hb
theorem build_ok {R : Nat → Prop} {v : Value} {p : Pg} {sg : Int} {w : World} (h : RdPg w R v p) (hb : (mayB p && tgB sg) = true) :
   Calls Tryz.prog 14 #[v, tgV sg] w fun e w' => ∃ A c, e = .returned (.tuple #[.agg #[.int .i64 (p.wide.length : Int), .slice A p.code.length c], .int .i64 0]) ∧
     RdPd w' (fun b => w.heap.size ≤ b ∧ b < w'.heap.size) (.agg #[.int .i64 (p.wide.length : Int), .slice A p.code.length c]) (buildF p sg) ∧ Fr w w' := by
 refine (build_any R v p sg w h).mono ?_
 rintro e w' ⟨f, ⟨h1, _⟩ | ⟨_, _, A, c, he, hr⟩⟩
 · rw [hb] at h1; cases h1
 · exact ⟨A, c, he, hr, f⟩
theorem dWrong_at (p : Pg) (sg : Int) (l : Pd) (n : Nat) (steps : Int) : 0 ≤ dWrong p sg l n steps ∧ dWrong p sg l n steps < 4 := by
 unfold dWrong wrongV
 split <;> (try split) <;> (try split) <;> (try split) <;> omega
theorem wrongV_at (p : Pg) (n : Nat) (steps : Int) : 0 ≤ wrongV p n steps ∧ wrongV p n steps < 4 := by
 unfold wrongV
 split <;> (try split) <;> (try split) <;> omega
theorem shownF_wr {wr : Int} (h : wr ≠ 0) (x y : Sh) : shownF wr x = shownF wr y := by unfold shownF; rw [if_pos h, if_pos h]
theorem sh0_ok (ins : List Int) : ShOk (sh0 ins) := ⟨by show 0 < _; omega, by show 0 < _; omega, by intro n hn; cases hn⟩
theorem pd_len {p : Pg} {sg : Int} {l : Pd} (h : mayL p sg l = true) : (pdNums l).length ≤ 5000 := by
 unfold mayL at h
 simp only [Bool.and_eq_true, decide_eq_true_eq] at h
 obtain ⟨⟨⟨⟨⟨hm, _⟩, _⟩, _⟩, hlen⟩, hall⟩ := h
 have hc : p.code.length ≤ 40 := by
   unfold mayB at hm
   simp only [Bool.and_eq_true, decide_eq_true_eq] at hm
   exact hm.2
 rw [List.all_eq_true] at hall
 have hrow : ∀ r ∈ l.rows, (rwNums r).length ≤ 116 := by
   intro r hr
   obtain ⟨k, hk, rfl⟩ := List.mem_iff_getElem.1 hr
   have hz : (p.code[k]'(by omega), l.rows[k]) ∈ p.code.zip l.rows := by
     rw [List.mem_iff_getElem]
     exact ⟨k, by rw [List.length_zip]; omega, by rw [List.getElem_zip]⟩
   have h1 := hall _ hz
   unfold rwB mvsB at h1
   simp only [Bool.and_eq_true, decide_eq_true_eq] at h1
   obtain ⟨_, ⟨⟨_, hb⟩, ⟨_, ha⟩⟩, _⟩ := h1
   have e : ∀ m : List Mv, (m.flatMap mvNums).length = 9 * m.length := by
     intro m
     induction m with
     | nil => rfl
     | cons x m ih => rw [List.flatMap_cons, List.length_append, ih]; simp [mvNums]; omega
   unfold rwNums mvsNums
   simp only [List.length_append, List.length_cons, List.length_nil, e]
   omega
 have hf : ∀ rs : List Rw, (∀ r ∈ rs, (rwNums r).length ≤ 116) → (rs.flatMap rwNums).length ≤ 116 * rs.length := by
   intro rs
   induction rs with
   | nil => intro _; simp
   | cons r rs ih =>
     intro h
     have := ih (fun x hx => h x (List.mem_cons_of_mem _ hx))
     have := h r List.mem_cons_self
     rw [List.flatMap_cons, List.length_append, List.length_cons]
     omega
 have := hf l.rows hrow
 unfold pdNums
 simp only [List.length_cons]
 omega
def RunSh (w : World) (wr : Int) (x : Sh) (e : Ending) (w' : World) : Prop :=
 ∃ v y, e = .returned (.tuple #[v, .int .i64 wr]) ∧ RdSh w' (fun _ => True) v y ∧ ShOk y ∧ shownF wr y = shownF wr x ∧ Fr w w'
theorem runSh_of {w : World} {wr : Int} {x : Sh} {e : Ending} {w' : World} (h : RunPost w wr x e w') (ho : wr = 0 → ShOk x) : RunSh w wr x e w' := by
 obtain ⟨f, ⟨h1, rfl⟩ | ⟨h1, v, rfl, hr⟩⟩ := h
 · exact ⟨_, sh0 [], rfl, RdSh.zero w' _, sh0_ok [], shownF_wr h1 _ _, f⟩
 · subst h1
   obtain ⟨A, c, e, hl, hr⟩ := hr
   exact ⟨v, x, rfl, ⟨A, c, e, hl, hr.more (fun _ _ => trivial)⟩, ho rfl, rfl, f⟩
theorem done_sh {R' : Nat → Prop} {v vl : Value} {p : Pg} {sg : Int} {l : Pd} {Ai : Option Addr} {ins : List Nat} {ci : Nat} {n : Nat} {w : World} (h : RdPg w (fun _ => True) v p) (hL : RdPd w R' vl l) (hl : ins.length ≤ ci) (hc : ci ≤ maxLen) (hr : Reads w (fun _ => True) 1 Ai ins.length (u32n ins)) (hi : ∀ n ∈ ins, n < 4294967296) :
   Calls Tryz.prog 15 #[v, tgV sg, vl, .slice Ai ins.length ci, .int .i64 (n : Int)] w (RunSh w (dWrong p sg l ins.length (n : Int)) (doneV p l.rows (insI ins) n)) := by
 have h1 := done_any (fun _ => True) R' v vl p sg l Ai (insI ins) ci (n : Int) w h hL (by rw [insI_len]; exact hl) hc (by rw [insI_len, u32s_insI]; exact hr) (insI_ok hi)
 rw [insI_len] at h1
 refine h1.mono fun e w' hp => runSh_of hp fun h0 => ?_
 have h2 := (wrong_0 (dWrong_0 h0).2).2.2.2
 exact doneV_shok (by omega)
theorem run_sh {v : Value} {p : Pg} {Ai : Option Addr} {ins : List Nat} {ci : Nat} {n : Nat} {w : World} (h : RdPg w (fun _ => True) v p) (hl : ins.length ≤ ci) (hc : ci ≤ maxLen) (hr : Reads w (fun _ => True) 1 Ai ins.length (u32n ins)) (hi : ∀ n ∈ ins, n < 4294967296) :
   Calls Tryz.prog 12 #[v, .slice Ai ins.length ci, .int .i64 (n : Int)] w (RunSh w (wrongV p ins.length (n : Int)) (runV p (insI ins) n)) := by
 have h1 := run_any (fun _ => True) v p Ai (insI ins) ci (n : Int) w h (by rw [insI_len]; exact hl) hc (by rw [insI_len, u32s_insI]; exact hr) (insI_ok hi)
 rw [insI_len] at h1
 refine h1.mono fun e w' hp => runSh_of hp fun h0 => ?_
 have h2 := (wrong_0 h0).2.2.2
 exact runV_shok (by omega)
end Go.Proofs.YtodmkjeankbieaaGreatDoor


namespace Go.Proofs.YtodmkjeankbieaaGreatDoor
open Go.RowKit Go.Sort Go.Lib

set_option maxHeartbeats 6400000 in
set_option maxRecDepth 100000 in
theorem dbytes_any (w : World) (base r : Nat) (vw vc vi : Value) (g : PS) (s : Nat) (hs : s < 4294967296) (hm : PlM w base r 65 vw vc vi g) (hv : Env w) :
   Calls Tryz.prog 49 #[.pointer (some ⟨r, 0, none⟩), .int .u32 (s : Int)] w fun e w' => e = .returned (.string (bA (bytesF g s))) ∧ Fr w w' := by
 have HM := Lib.hid hm
 have HV := Lib.hid hv
 have p0 := hm.blk.cell 0
 have p1 := hm.blk.cell 1
 have z0 := hm.blk.lt
 simp only [List.getElem?_toArray, List.getElem?_cons_succ, List.getElem?_cons_zero] at p0 p1
 have u0 : IntKind.i64.wrap (s : Int) = (s : Int) := by simp [IntKind.wrap, IntKind.bits, IntKind.signed]; omega
 clear hm hv
 cases hb : (mayB g.p && tgB (s : Int)) with
 | false =>
   have HE : Hid (bytesF g s = saidF badT [2]) := by show _ = _; unfold bytesF; rw [if_pos hb]
   have HBU := Lib.hid (build_no HM.out.rd hb)
   unfold tgV at HBU
   clear hb
   go_enter Tryz.func49, Tryz.ntmps49
   go_wp2_with fail
   refine HBU.out.mono ?_
   rintro e w1 ⟨rfl, f1⟩
   have HF1 := Lib.hid (f1.alloc (.cells #[.int .i64 0, .slice none 0 0] 55))
   have HS := Lib.hid (sayI1x badT ⟨#[98, 97, 100]⟩ rfl 2 2 rfl (by omega) (by decide) (w1.alloc (.cells #[.int .i64 0, .slice none 0 0] 55)) (HV.out.kept HF1.out) (w1.heap.size + 1) (by simp))
   clear f1
   go_wp2_with fail
   refine HS.out.mono ?_
   rintro e w2 ⟨rfl, f2⟩
   have HF2 := Lib.hid (HF1.out.trans f2)
   clear f2
   go_wp2
   go_ret
   rw [HE.out]
   exact ⟨rfl, HF2.out⟩
 | true =>
   have HBU := Lib.hid (build_ok HM.out.rd hb)
   have hb2 := hb
   rw [Bool.and_eq_true] at hb2
   have hlen := pd_len (buildF_ok hb2.1 hb2.2).1
   have HE : Hid (bytesF g s = if (pdNums (buildF g.p (s : Int))).all isByte = true then decDigits (pdNums (buildF g.p (s : Int))).length else saidF badT [1]) := by show _ = _; unfold bytesF; rw [hb, if_neg (by simp)]
   unfold tgV at HBU
   clear hb hb2
   generalize buildF g.p (s : Int) = bf at *
   go_enter Tryz.func49, Tryz.ntmps49
   go_wp2_with fail
   refine HBU.out.mono ?_
   rintro e w1 ⟨A, c, rfl, hr1, f1⟩
   have HF1 := Lib.hid (f1.alloc (.cells #[.int .i64 (g.p.wide.length : Int), .slice A g.p.code.length c] 55))
   have f1a : Fr w1 (w1.alloc (.cells #[.int .i64 (g.p.wide.length : Int), .slice A g.p.code.length c] 55)) := (Kept.refl _ w1).alloc _
   have HPUT := Lib.hid (Put_any _ bf (w1.alloc (.cells #[.int .i64 (g.p.wide.length : Int), .slice A g.p.code.length c] 55)) ((hr1.kept f1a (fun _ _ h => h)).more (fun b h => by have h2 : b < w1.heap.size := h.2; simp; omega)) (by omega))
   clear f1 f1a hr1
   go_wp2_with fail
   refine HPUT.out.mono ?_
   rintro e w2 ⟨vb, err, rfl, f2, ⟨hall, rfl, hown⟩ | ⟨hall, rfl, rfl⟩⟩
   · obtain ⟨A2, c2, rfl, _, _⟩ := own_reads hown
     have HF2 := Lib.hid (HF1.out.trans f2)
     have hl2 : (toByte (pdNums bf)).length = (pdNums bf).length := by simp [toByte]
     have HE2 : Hid (bytesF g s = decDigits (pdNums bf).length) := by show _ = _; rw [HE.out, if_pos hall]
     have HI := Lib.hid (itoa_any (pdNums bf).length (by omega) w2 (HV.out.kept HF2.out))
     clear f2 hall hown
     generalize (pdNums bf).length = n at *
     go_wp2_with fail
     refine HI.out.mono ?_
     rintro e w3 ⟨rfl, f3⟩
     have HF3 := Lib.hid (HF2.out.trans f3)
     clear f3
     go_wp2
     go_ret
     rw [HE2.out]
     exact ⟨rfl, HF3.out⟩
   · have HF2 := Lib.hid (HF1.out.trans f2)
     have HE2 : Hid (bytesF g s = saidF badT [1]) := by show _ = _; rw [HE.out, if_neg (by rw [hall]; simp)]
     have HS := Lib.hid (sayI1x badT ⟨#[98, 97, 100]⟩ rfl 1 1 rfl (by omega) (by decide) w2 (HV.out.kept HF2.out) w2.heap.size rfl)
     clear f2 hall
     go_wp2_with fail
     refine HS.out.mono ?_
     rintro e w3 ⟨rfl, f3⟩
     have HF3 := Lib.hid (HF2.out.trans f3)
     clear f3
     go_wp2
     go_ret
     rw [HE2.out]
     exact ⟨rfl, HF3.out⟩
end Go.Proofs.YtodmkjeankbieaaGreatDoor

