/- The walks of code.Put: moves, rows, all. -/
import Derived.Test.YtodmkjeankbieaaCodePut
namespace Go.Proofs.Ytodmkjeankbieaa
open Go.RowKit Go.Sort

def mvsTo (l : List Mv) (k : Nat) : List Int := (l.length : Int) :: (l.take k).flatMap mvNums
theorem mvsTo_succ (l : List Mv) (k : Nat) (m : Mv) (h : l[k]? = some m) : mvsTo l (k + 1) = mvsTo l k ++ mvNums m := by
  unfold mvsTo; rw [mvs_take l k m h]; rfl
theorem mvsTo_len (l : List Mv) (k : Nat) (hk : k ≤ l.length) : (mvsTo l k).length = 1 + 9 * k := by
  have e : mvsTo l k = (l.length : Int) :: (mvsNums (l.take k)).tail := rfl
  rw [e, List.length_cons, List.length_tail, mvs_len, List.length_take]
  omega

theorem and255 (n : Int) (h : 0 ≤ n) (h2 : n < 4294967296) : bits .and .u32 n 255 = n % 256 :=
  bits_mask .u32 32 (by decide) (fun n h h' => by rw [IntKind.wrap_u32]; exact Int.emod_eq_of_lt h (by simpa using h')) 8 (by decide) n h (by simpa using h2)

theorem below_not {base g : Nat} {w : World} {n : Nat} {v : Value} {xs : List Value} (hg : base ≤ g) (h : w.ownsRow base 5 1 v n xs) : ∀ b, b < base → ¬ (b = g ∨ v.ownBlock = some b) := by
  intro b hb hs
  rcases hs with e | e
  · omega
  · have := (own_lt h e).1; omega

/-- a round: a box, then more numbers -/
theorem wr_step {w wr w2 : World} {g base : Nat} {v v1 : Value} {bs : List Int} {bad : Bool} {L1 L2 L3 : List Int} {o : Obj} (hk : Kept (fun b => b = g ∨ v.ownBlock = some b) w wr) (hat : ∀ b, v1.ownBlock = some b → v.ownBlock = some b ∨ w.heap.size ≤ b)
    (h : WrPost (wr.alloc o) g base v1 (bs ++ toByte L1) (bad || !L1.all isByte) L2 w2) (he : L3 = L1 ++ L2) : WrPost w g base v bs bad L3 w2 := by
  subst he
  exact WrPost.more (hk.alloc o) hat h

set_option maxHeartbeats 1000000 in
set_option maxRecDepth 100000 in
theorem wrMoves_any (g base : Nat) (v : Value) (bs : List Int) (bad : Bool) (vl : Value) (l : List Mv) (w : World) (hw : Wr w g base v bs bad) (hr : RdMv w (fun b => b < base) vl l)
    (hg : base ≤ g) (hb : base ≤ w.heap.size) (hl : bs.length + (mvsNums l).length ≤ 140737488355328) :
    Calls Try.prog 37 #[.pointer (some ⟨g, 0, none⟩), vl] w fun e w' => e = .returned (.tuple #[]) ∧ WrPost w g base v bs bad (mvsNums l) w' := by
  obtain ⟨A, c, rfl, hml, hrd, ho⟩ := hr
  have hmm := mvs_len l
  unfold maxLen at hml
  go_enter Try.func37, Try.ntmps37
  go_wp2_with (go_at_call 36; refine (put_lit g base v bs bad [(l.length : Int)] _ _ 1 _ _ hw rfl rfl rfl hb (by simp; omega)).mono ?_; rintro e w1 ⟨rfl, hp1⟩)
  go_loopw [14] (fun i wr => ∃ k : Nat, k ≤ l.length ∧ i = .int .i64 k ∧ WrPost w g base v bs bad (mvsTo l k) wr) (fun i _ => l.length - (intOf i).toNat)
  case atStart => exact ⟨0, by omega, rfl, hp1⟩
  case round =>
    obtain ⟨k, hk, rfl, hinv⟩ := hrel
    obtain ⟨v1, hw1, hk1, hat1⟩ := id hinv
    by_cases hlt : k < l.length
    · have hm : l[k]? = some l[k] := List.getElem?_eq_getElem hlt
      have hok := ho _ (List.getElem_mem hlt)
      generalize l[k] = m at *
      obtain ⟨b, off, rfl, _, c0, c1, c2, c3, c4, c5⟩ := (hrd.kept hk1 (below_not hg hw.own)).mv hm
      have hz := hk1.size
      have hn1 := hok.2.2
      have H0 := Lib.hid (mvsTo_succ l k m hm)
      have hlen := mvsTo_len l k hk
      have hlen2 : (bs ++ toByte (mvsTo l k)).length = bs.length + (1 + 9 * k) := by rw [List.length_append]; simp [toByte, hlen]
      have HL := Lib.hid hlen2
      clear hok ho hrd hm hinv hlen hlen2 hp1
      rcases m with ⟨⟨tk, tn⟩, ⟨fk, fn⟩, mc, mn⟩
      simp only at c0 c1 c2 c3 c4 c5 hn1
      have a1 := and255 ((mn : Int) / 65536) (by omega) (by omega)
      have a2 := and255 ((mn : Int) / 256) (by omega) (by omega)
      have a3 := and255 (mn : Int) (by omega) (by omega)
      have hb1 : base ≤ (wr.alloc (.cells #[.int .i64 tk, .int .i64 tn, .int .i64 fk, .int .i64 fn, .bool mc, .int .u32 mn] 99)).heap.size := by simp; omega
      have hw2 : Wr (wr.alloc (.cells #[.int .i64 tk, .int .i64 tn, .int .i64 fk, .int .i64 fn, .bool mc, .int .u32 mn] 99)) g base v1 (bs ++ toByte (mvsTo l k)) (bad || !(mvsTo l k).all isByte) := ⟨hw1.blk.alloc _, World.ownsRow.alloc hw1.own _⟩
      have HW := Lib.hid hw2
      have HB := Lib.hid hb1
      clear hw2 hb1
      cases mc
      · go_wp2_with (go_at_call 36; refine (put_lit g base v1 _ _ (mvNums ⟨⟨tk, tn⟩, ⟨fk, fn⟩, false, mn⟩) _ _ 9 _ _ HW.out (by simp) rfl rfl HB.out ?_).mono ?_; (· have := HL.out; simp only [mvNums, List.length_cons, List.length_nil]; omega); rintro e w2 ⟨rfl, hp2⟩)
        go_roundw
        case rel => exact ⟨k + 1, by omega, by go_num, wr_step hk1 hat1 hp2 H0.out⟩
        case measure => simp [intOf]; omega
      · go_wp2_with (go_at_call 36; refine (put_lit g base v1 _ _ (mvNums ⟨⟨tk, tn⟩, ⟨fk, fn⟩, true, mn⟩) _ _ 9 _ _ HW.out (by simp) rfl rfl HB.out ?_).mono ?_; (· have := HL.out; simp only [mvNums, List.length_cons, List.length_nil]; omega); rintro e w2 ⟨rfl, hp2⟩)
        go_roundw
        case rel => exact ⟨k + 1, by omega, by go_num, wr_step hk1 hat1 hp2 H0.out⟩
        case measure => simp [intOf]; omega
    · obtain rfl : k = l.length := by omega
      have e : mvsTo l l.length = mvsNums l := by unfold mvsTo mvsNums; rw [List.take_length]
      rw [e] at hinv
      clear hw1 hk1 hat1
      go_wp2
      go_end0
      exact ⟨rfl, hinv⟩

/-! ### all of it -/
/-- what code.Put answers -/
def PutRes (w : World) (p : Pd) (e : Ending) (w' : World) : Prop :=
  ∃ (vb : Value) (err : Int), e = .returned (.tuple #[vb, .int .i64 err]) ∧ Fr w w' ∧
    (((pdNums p).all isByte = true ∧ err = 0 ∧ w'.ownsRow w.heap.size 5 1 vb (toByte (pdNums p)).length (byteVals (toByte (pdNums p)))) ∨
     ((pdNums p).all isByte = false ∧ err = 1 ∧ vb = .slice none 0 0))

theorem slices_lt {w : World} {R : Nat → Prop} {v : Value} {l : List RwV} (h : RdRw w R v l) : ∃ A c, v = .slice A l.length c := ⟨h.choose, h.choose_spec.choose, h.choose_spec.choose_spec.1⟩

/-- the world with the argument's box and the new writer -/
def putW0 (w : World) (slots : Int) (vr : Value) : World := (w.alloc (.cells #[.int .i64 slots, vr] 34)).alloc (.cells #[.slice none 0 0, .bool false] 68)
theorem putW0_wr (w : World) (slots : Int) (vr : Value) : Wr (putW0 w slots vr) (w.heap.size + 1) w.heap.size (.slice none 0 0) [] false := by
  refine ⟨?_, World.ownsRow_nil _ _ _ _⟩
  have := Blk.new (w.alloc (.cells #[.int .i64 slots, vr] 34)) 68 #[.slice none 0 0, .bool false]
  simpa [putW0] using this
theorem putW0_size (w : World) (slots : Int) (vr : Value) : (putW0 w slots vr).heap.size = w.heap.size + 2 := by simp [putW0]
theorem putW0_fr (w : World) (slots : Int) (vr : Value) : Fr w (putW0 w slots vr) := ((Kept.refl _ _).alloc _).alloc _

abbrev PutS (w : World) : Nat → Prop := fun b => b = w.heap.size + 1 ∨ (Value.slice none 0 0).ownBlock = some b
theorem putS_not (w : World) : ∀ b, b < w.heap.size → ¬ PutS w b := by
  intro b hb hs
  rcases hs with e | e
  · omega
  · simp [Value.ownBlock] at e

theorem putW0_box {w w1 : World} {slots : Int} {vr : Value} {L : List Int} (h : WrPost (putW0 w slots vr) (w.heap.size + 1) w.heap.size (.slice none 0 0) [] false L w1) : w1.cell? ⟨w.heap.size, 1, none⟩ = some vr := by
  obtain ⟨_, _, hk, _⟩ := h
  have h1 : Blk (putW0 w slots vr) w.heap.size 34 #[.int .i64 slots, vr] := (Blk.new w _ _).alloc _
  have h2 := (h1.kept hk (fun e => by rcases e with e | e; (· omega); (· simp [Value.ownBlock] at e))).cell 1
  simpa using h2

theorem len_more (L : List Int) (xs : List Int) : (xs ++ toByte L).length = xs.length + L.length := by simp [toByte]

theorem len_byte (L : List Int) : ([] ++ toByte L).length = L.length := by simp [toByte]

set_option maxHeartbeats 2000000 in
set_option maxRecDepth 100000 in
theorem Put_any (v : Value) (p : Pd) (w : World) (h : RdPd w (fun b => b < w.heap.size) v p) (hb : (pdNums p).length * 8 ≤ 140737488355328) :
    Calls Try.prog 18 #[v] w (PutRes w p) := by
  obtain ⟨vr, l, rfl, hi, hr0, hp⟩ := h
  obtain ⟨slots, rows⟩ := p
  simp only at hp hi
  subst hp
  obtain ⟨A, c, rfl, hl, hr, ho⟩ := id hr0
  unfold maxLen at hl
  have hle0 := numsTo_le ⟨slots, l.map (·.r)⟩ 0
  have hw0 := putW0_wr w slots (.slice A l.length c)
  have hs0 := putW0_size w slots (.slice A l.length c)
  have hf0 := putW0_fr w slots (.slice A l.length c)
  have HS := Lib.hid hs0
  clear hs0
  go_enter Try.func18, Try.ntmps18
  go_wp2_with (first
    | (go_at_call 36
       refine (put_lit (w.heap.size + 1) w.heap.size (.slice none 0 0) [] false [slots, (l.length : Int)] (putW0 w slots (.slice A l.length c)) _ 2 _ _ hw0 ?_ rfl rfl ?_ ?_).mono ?_
       · rw [HS.out]
       · rw [HS.out]; omega
       · simp
       rintro e w1 ⟨rfl, hp1⟩
       have qp := putW0_box hp1))
  go_loopw [20] (fun i wr => ∃ k : Nat, k ≤ l.length ∧ i = .int .i64 k ∧ WrPost (putW0 w slots (.slice A l.length c)) (w.heap.size + 1) w.heap.size (.slice none 0 0) [] false (numsTo ⟨slots, l.map (·.r)⟩ k) wr) (fun i _ => l.length - (intOf i).toNat)
  case atStart =>
    refine ⟨0, by omega, rfl, ?_⟩
    rw [numsTo_0]
    simpa using hp1
  case round =>
    obtain ⟨k, hk, rfl, hinv⟩ := hrel
    obtain ⟨v1, hw1, hk1, hat1⟩ := id hinv
    by_cases hlt : k < l.length
    · have hm : l[k]? = some l[k] := List.getElem?_eq_getElem hlt
      have hok := ho _ (List.getElem_mem hlt)
      generalize l[k] = m at *
      have hK0 : Kept (PutS w) w wr := (Kept.of_fr hf0).trans hk1
      obtain ⟨b, off, rfl, _, c0, c1, c2, c3, c4, c5, c6, c7⟩ := (hr.kept hK0 (putS_not w)).rw hm
      obtain ⟨_, _, _, rb, ra⟩ := id hok
      have H0 := Lib.hid (numsTo_succ ⟨slots, l.map (·.r)⟩ k m.r (by simp [hm]))
      have hle : (numsTo ⟨slots, l.map (·.r)⟩ k).length + 6 + (mvsNums m.r.before).length + (mvsNums m.r.after).length ≤ (pdNums ⟨slots, l.map (·.r)⟩).length := by
        have := numsTo_le ⟨slots, l.map (·.r)⟩ (k + 1)
        rw [H0.out] at this
        simp only [List.length_append, List.length_cons, List.length_nil] at this
        omega
      have hcl := len_byte (numsTo ⟨slots, l.map (·.r)⟩ k)
      have HC := Lib.hid hcl
      have hz := hK0.size
      have hglt := hw1.blk.lt
      clear hok hm ho hr hr0 hp1 hcl hle0 hinv
      rcases m with ⟨⟨⟨dk, dn⟩, ⟨ak, an⟩, ⟨bk, bn⟩, bef, aft⟩, vb, va⟩
      simp only at c0 c1 c2 c3 c4 c5 c6 c7 rb ra hle
      obtain ⟨Ab, cb, rfl, _, _, _⟩ := id rb
      obtain ⟨Aa, ca, rfl, _, _, _⟩ := id ra
      have hwb : Wr (wr.alloc (.cells #[.int .i64 dk, .int .i64 dn, .int .i64 ak, .int .i64 an, .int .i64 bk, .int .i64 bn, .slice Ab bef.length cb, .slice Aa aft.length ca] 72)) (w.heap.size + 1) w.heap.size v1
        ([] ++ toByte (numsTo ⟨slots, l.map (·.r)⟩ k)) (false || !(numsTo ⟨slots, l.map (·.r)⟩ k).all isByte) := ⟨hw1.blk.alloc _, World.ownsRow.alloc hw1.own _⟩
      have HWb := Lib.hid hwb
      clear hwb
      go_wp2_with (first
        | (go_at_call 36
           refine (put_lit (w.heap.size + 1) w.heap.size v1 _ _ [dk, dn, ak, an, bk, bn] _ _ 6 _ _ HWb.out (by simp) rfl rfl ?_ ?_).mono ?_
           · simp; omega
           · have := HC.out; simp only [List.length_cons, List.length_nil]; omega
           rintro e w2 ⟨rfl, hp2⟩
           obtain ⟨v2, hw2, hk2, hat2⟩ := id hp2
           have hB2 := (Blk.new wr _ _).kept hk2 (fun e => by rcases e with e | e; (· omega); (· have := (own_lt hw1.own e).2; omega))
           have q6 := hB2.cell 6
           have q7 := hB2.cell 7
           simp only [List.getElem?_toArray, List.getElem?_cons_succ, List.getElem?_cons_zero] at q6 q7
           have rb2 := ((rb.kept hK0 (putS_not w)).kept ((Kept.refl (fun _ => False) wr).alloc _) (fun _ _ h => h)).kept hk2 (below_not (by omega) hw1.own)
           have ra2 := ((ra.kept hK0 (putS_not w)).kept ((Kept.refl (fun _ => False) wr).alloc _) (fun _ _ h => h)).kept hk2 (below_not (by omega) hw1.own)
           have z2 := hk2.size
           simp only [World.size_alloc] at z2)
        | (go_at_call 37
           with_reducible refine (wrMoves_any (w.heap.size + 1) w.heap.size v2 _ _ _ bef _ hw2 ?_ ?_ ?_ ?_).mono ?_
           · exact rb2
           · omega
           · omega
           · rw [len_more, HC.out]; simp only [List.length_cons, List.length_nil]; omega
           rintro e w3 ⟨rfl, hp3⟩
           obtain ⟨v3, hw3, hk3, hat3⟩ := id hp3
           have hB3 := hB2.kept hk3 (fun e => by rcases e with e | e; (· omega); (· exact own_blk_ne hw2.own hB2 (by decide) e))
           have p7 := hB3.cell 7
           simp only [List.getElem?_toArray, List.getElem?_cons_succ, List.getElem?_cons_zero] at p7
           have ra3 := ra2.kept hk3 (below_not (by omega) hw2.own)
           have z3 := hk3.size)
        | (go_at_call 37
           with_reducible refine (wrMoves_any (w.heap.size + 1) w.heap.size v3 _ _ _ aft _ hw3 ?_ ?_ ?_ ?_).mono ?_
           · exact ra3
           · omega
           · omega
           · rw [len_more, len_more, HC.out]; simp only [List.length_cons, List.length_nil]; omega
           rintro e w4 ⟨rfl, hp4⟩))
      go_roundw
      case rel =>
        refine ⟨k + 1, by omega, by go_num, ?_⟩
        have x3 := WrPost.more hk3 hat3 hp4
        have x2 := WrPost.more hk2 hat2 x3
        have x1 := WrPost.more (hk1.alloc _) hat1 x2
        rw [H0.out]
        simpa [List.append_assoc] using x1
      case measure => simp [intOf]; omega
    · obtain rfl : k = l.length := by omega
      have e : numsTo ⟨slots, l.map (·.r)⟩ l.length = pdNums ⟨slots, l.map (·.r)⟩ := by
        have := numsTo_all ⟨slots, l.map (·.r)⟩
        simpa using this
      rw [e] at hw1
      have hK0 : Kept (PutS w) w wr := (Kept.of_fr hf0).trans hk1
      have hfr : Fr w wr := hK0.mono (fun i hi hs => putS_not w i hi hs)
      have q0 := hw1.blk.cell 0
      have q1 := hw1.blk.cell 1
      have hown := hw1.own
      simp only [List.getElem?_toArray, List.getElem?_cons_succ, List.getElem?_cons_zero, Bool.false_or, List.nil_append] at q0 q1 hown
      clear hinv hw1 hk1 hat1 hp1 hr hr0 ho hw0 hf0 e
      cases hall : (pdNums ⟨slots, l.map (·.r)⟩).all isByte
      · rw [hall] at q1
        have HA := Lib.hid hall
        clear hall
        have q1' : wr.cell? ⟨w.heap.size + 1, 1, none⟩ = some (.bool true) := q1
        clear q1
        go_wp2
        go_ret2
        exact ⟨_, _, rfl, hfr, .inr ⟨HA.out, rfl, rfl⟩⟩
      · rw [hall] at q1
        have HA := Lib.hid hall
        clear hall
        have q1' : wr.cell? ⟨w.heap.size + 1, 1, none⟩ = some (.bool false) := q1
        clear q1
        go_wp2
        go_ret2
        exact ⟨_, _, rfl, hfr, .inl ⟨HA.out, rfl, hown⟩⟩
end Go.Proofs.Ytodmkjeankbieaa
