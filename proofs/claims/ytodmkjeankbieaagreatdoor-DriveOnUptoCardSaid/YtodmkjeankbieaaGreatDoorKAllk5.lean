/- Texts of this claim, packed. -/
import Derived.Test.YtodmkjeankbieaaGreatDoorKAllk3
import Derived.Lib.ItoaMem
import Derived.Lib.AppendIntMem
import Derived.Deep.OwnRows
import Derived.Deep.LoopGhost
set_option linter.all false
namespace Go.Proofs.YtodmkjeankbieaaGreatDoor
open Go.RowKit Go.Sort Go.Lib

structure Env (w : World) : Prop where
 tab : Lib.TabIs Tryz.prog w "internal/strconv.uint64pow10" .u64 Lib.pow10Tab
 rng : ∃ tp p, w.var? Tryz.prog "strconv.ErrRange" = some #[.iface tp p]
 syn : ∃ tp p, w.var? Tryz.prog "strconv.ErrSyntax" = some #[.iface tp p]
 len : ∃ m : Int, w.cell? ⟨0, 0, none⟩ = some (.int .i64 m)
theorem var_fr {P : Program} {w w' : World} {name : String} {cs : Array Value} (h : w.var? P name = some cs) (k : Fr w w') : w'.var? P name = some cs := by
 unfold World.var? at *
 cases hg : P.globalNamed name with
 | none => simp [hg] at h
 | some g =>
   simp only [hg, Option.bind_some] at h ⊢
   have hlt : g < w.heap.size := by
     rcases Nat.lt_or_ge g w.heap.size with h' | h'
     · exact h'
     · rw [Array.getElem?_eq_none h'] at h; simp at h
   rw [k.block g hlt (fun h => h)]
   exact h
theorem Env.kept {w w' : World} (h : Env w) (k : Fr w w') : Env w' :=
 ⟨var_fr h.tab k, let ⟨a, b, e⟩ := h.rng; ⟨a, b, var_fr e k⟩, let ⟨a, b, e⟩ := h.syn; ⟨a, b, var_fr e k⟩, let ⟨m, e⟩ := h.len; ⟨m, (k.cell (cell_lt e)).trans e⟩⟩
theorem fr_grow (w : World) (k : Nat) (os : Array Obj) : Fr w (grow (w.drewN k) os) :=
 Kept.of_below (B := w.heap.size) (below_grow w.heap.size w (Nat.le_refl _) k os) (fun i hi hb => absurd hb (by omega))
theorem fmtU_any (u : Nat) (hu : u < 18446744073709551616) (w : World) (hv : Env w) :
   Calls Tryz.prog 72 #[.int .u64 (u : Int), .int .i64 10] w fun e w' => e = .returned (.string (bA (decDigits u))) ∧ Fr w w' := by
 have HF := Lib.hid (fmtU_in u hu w hv.tab)
 go_enter Tryz.func72, Tryz.ntmps72
 go_wp2_with fail
 refine HF.out.mono ?_
 rintro e w' ⟨rfl, k, os, rfl⟩
 have HK := Lib.hid (fr_grow w k os)
 go_wp2
 go_ret
 refine ⟨?_, HK.out⟩
 rw [Lib.itoa_nonneg]
 rfl
theorem itoa_any (u : Nat) (hu : u < 9223372036854775808) (w : World) (hv : Env w) :
   Calls Tryz.prog 75 #[.int .i64 (u : Int)] w fun e w' => e = .returned (.string (bA (decDigits u))) ∧ Fr w w' := by
 refine (Tryz.strconv_Itoa (u : Int) (by omega) (by omega) w hv.tab).mono ?_
 rintro e w' ⟨rfl, k, os, rfl⟩
 refine ⟨?_, fr_grow w k os⟩
 rw [Lib.itoa_nonneg]
 rfl

def u32n (l : List Nat) : List Value := l.map fun (n : Nat) => Value.int .u32 (n : Int)
set_option maxHeartbeats 1600000 in
set_option maxRecDepth 100000 in
theorem sayI_any (R : Nat → Prop) (s : Tx) (l : List Nat) (hl : ∀ n ∈ l, n < 9223372036854775808) (hs : s.length + 20 * l.length < 9223372036854775000) (A : Option Addr) (c : Nat) (w : World) (hr : Reads w R 1 A l.length (i64s l)) (hv : Env w) :
   Calls Tryz.prog 45 #[.string (bA s), .slice A l.length c] w fun e w' => e = .returned (.string (bA (saidF s l))) ∧ Fr w w' := by
 have HR := Lib.hid hr
 have HL := Lib.hid hl
 have HV := Lib.hid hv
 clear hr hl hv
 go_enter Tryz.func45, Tryz.ntmps45
 go_wp2
 go_loopw [9, 0] (fun i t wr => ∃ k : Nat, k ≤ l.length ∧ i = .int .i64 k ∧ t = .string (bA (saidF s (l.take k))) ∧ Fr w wr) (fun i _ _ => l.length - (intOf i).toNat)
 case atStart => exact ⟨0, by omega, rfl, rfl, Kept.refl _ w⟩
 case round =>
   obtain ⟨k, hk, rfl, rfl, hfr⟩ := hrel
   by_cases hlt : k < l.length
   · have hx : l[k]? = some l[k] := List.getElem?_eq_getElem hlt
     have hm : l[k] < 9223372036854775808 := HL.out _ (List.getElem_mem hlt)
     generalize l[k] = n at *
     have HX := Lib.hid hx
     obtain ⟨b, off, rfl, _, hc⟩ := (HR.out.kept hfr (fun _ _ h => h)).2 (by omega)
     have d0 := hc k (.int .i64 (n : Int)) (by unfold i64s; rw [List.getElem?_map, hx]; rfl)
     have hb := cell_lt d0
     clear hc hx
     have hsz1 : (bA (saidF s (l.take k))).size < 9223372036854775000 := by
       rw [bA_size]
       have := saidF_len s (l.take k) (fun m hm => HL.out m (List.mem_of_mem_take hm))
       rw [List.length_take] at this
       omega
     have hsz2 := dec_size hm
     have HF := Lib.hid hfr
     have HN := Lib.hid (fmtU_any n (by omega) wr (HV.out.kept hfr))
     clear hfr
     have hsz3 : ¬ 9223372036854775807 < 1 + (bA (decDigits n)).size := by omega
     have hsz4 : ¬ 9223372036854775807 < (bA (saidF s (l.take k))).size + (1 + (bA (decDigits n)).size) := by omega
     have HE : Hid (bA (saidF s (l.take (k + 1))) = bA (saidF s (l.take k)) ++ (⟨#[32]⟩ ++ bA (decDigits n))) := by
       show _ = _
       rw [saidF_step HX.out, show (32 :: decDigits n : Tx) = [32] ++ decDigits n from rfl, bA_app, bA_app]
       rfl
     go_wp2_with fail
     refine HN.out.mono ?_
     rintro e w1 ⟨rfl, f1⟩
     have HF1 := Lib.hid (HF.out.trans f1)
     clear f1
     go_wp2
     go_roundw
     case rel => exact ⟨k + 1, by omega, by go_num, by rw [HE.out], HF1.out⟩
     case measure => simp [intOf]; omega
   · obtain rfl : k = l.length := by omega
     rw [List.take_length]
     go_wp2
     go_ret
     exact ⟨rfl, hfr⟩
set_option maxHeartbeats 1600000 in
set_option maxRecDepth 100000 in
theorem sayU_any (R : Nat → Prop) (s : Tx) (l : List Nat) (hl : ∀ n ∈ l, n < 4294967296) (hs : s.length + 20 * l.length < 9223372036854775000) (A : Option Addr) (c : Nat) (w : World) (hr : Reads w R 1 A l.length (u32n l)) (hv : Env w) :
   Calls Tryz.prog 74 #[.string (bA s), .slice A l.length c] w fun e w' => e = .returned (.string (bA (saidF s l))) ∧ Fr w w' := by
 have HR := Lib.hid hr
 have HL := Lib.hid hl
 have HV := Lib.hid hv
 clear hr hl hv
 go_enter Tryz.func74, Tryz.ntmps74
 go_wp2
 go_loopw [9, 0] (fun i t wr => ∃ k : Nat, k ≤ l.length ∧ i = .int .i64 k ∧ t = .string (bA (saidF s (l.take k))) ∧ Fr w wr) (fun i _ _ => l.length - (intOf i).toNat)
 case atStart => exact ⟨0, by omega, rfl, rfl, Kept.refl _ w⟩
 case round =>
   obtain ⟨k, hk, rfl, rfl, hfr⟩ := hrel
   by_cases hlt : k < l.length
   · have hx : l[k]? = some l[k] := List.getElem?_eq_getElem hlt
     have hm : l[k] < 4294967296 := HL.out _ (List.getElem_mem hlt)
     generalize l[k] = n at *
     have HX := Lib.hid hx
     obtain ⟨b, off, rfl, _, hc⟩ := (HR.out.kept hfr (fun _ _ h => h)).2 (by omega)
     have d0 := hc k (.int .u32 (n : Int)) (by unfold u32n; rw [List.getElem?_map, hx]; rfl)
     have hb := cell_lt d0
     clear hc hx
     have hsz1 : (bA (saidF s (l.take k))).size < 9223372036854775000 := by
       rw [bA_size]
       have := saidF_len s (l.take k) (fun m hm => by have := HL.out m (List.mem_of_mem_take hm); omega)
       rw [List.length_take] at this
       omega
     have hsz2 := dec_size (n := n) (by omega)
     have HF := Lib.hid hfr
     have HN := Lib.hid (fmtU_any n (by omega) wr (HV.out.kept hfr))
     clear hfr
     have hsz3 : ¬ 9223372036854775807 < 1 + (bA (decDigits n)).size := by omega
     have hsz4 : ¬ 9223372036854775807 < (bA (saidF s (l.take k))).size + (1 + (bA (decDigits n)).size) := by omega
     have HE : Hid (bA (saidF s (l.take (k + 1))) = bA (saidF s (l.take k)) ++ (⟨#[32]⟩ ++ bA (decDigits n))) := by
       show _ = _
       rw [saidF_step HX.out, show (32 :: decDigits n : Tx) = [32] ++ decDigits n from rfl, bA_app, bA_app]
       rfl
     go_wp2_with fail
     refine HN.out.mono ?_
     rintro e w1 ⟨rfl, f1⟩
     have HF1 := Lib.hid (HF.out.trans f1)
     clear f1
     go_wp2
     go_roundw
     case rel => exact ⟨k + 1, by omega, by go_num, by rw [HE.out], HF1.out⟩
     case measure => simp [intOf]; omega
   · obtain rfl : k = l.length := by omega
     rw [List.take_length]
     go_wp2
     go_ret
     exact ⟨rfl, hfr⟩
theorem sayI1 (s : Tx) (b : ByteArray) (hb : b = bA s) (n : Nat) (hn : n < 9223372036854775808) (hs : s.length < 9223372036854774000) (w0 : World) (hv : Env w0) (g : Nat) (hg : g = w0.heap.size) :
   Calls Tryz.prog 45 #[.string b, .slice (some ⟨g, 0, none⟩) 1 1] (w0.alloc (.cells #[.int .i64 (n : Int)] 3)) fun e w' => e = .returned (.string (bA (saidF s [n]))) ∧ Fr w0 w' := by
 subst hb
 subst hg
 have hf := (Kept.refl (fun _ => False) w0).alloc (.cells #[.int .i64 (n : Int)] 3)
 have h := sayI_any (fun _ => True) s [n] (by simp; omega) (by simp; omega) (some ⟨w0.heap.size, 0, none⟩) 1 (w0.alloc (.cells #[.int .i64 (n : Int)] 3)) (Reads.lit' (by simp) trivial rfl) (hv.kept hf)
 exact h.mono fun e w' ⟨h1, h2⟩ => ⟨h1, hf.trans h2⟩
end Go.Proofs.YtodmkjeankbieaaGreatDoor


namespace Go.Proofs.YtodmkjeankbieaaGreatDoor
open Go.RowKit Go.Sort Go.Lib

theorem parse_lt {x : Tx} {u : Nat} (h : Lib.parseUintB 32 x = .ok u) : u < 4294967296 := by
 unfold Lib.parseUintB at h
 split at h
 · cases h
 · rw [parse_iff (by decide) x 0 (by decide)] at h
   have : (2 : Nat) ^ 32 - 1 = 4294967295 := by decide
   omega
theorem numF_ok {x : Tx} {u : Nat} (h : Lib.parseUintB 32 x = .ok u) (hd : decDigits u = x) : numF x = some u := num_iff.1 ⟨h, hd⟩
theorem numF_ne {x : Tx} {u : Nat} (h : Lib.parseUintB 32 x = .ok u) (hd : decDigits u ≠ x) : numF x = none := by
 cases hn : numF x with
 | none => rfl
 | some v =>
   obtain ⟨h1, h2⟩ := num_iff.2 hn
   rw [h] at h1
   injection h1 with h1
   subst h1
   exact absurd h2 hd
theorem numF_bad {x : Tx} (h : ∀ u, Lib.parseUintB 32 x ≠ .ok u) : numF x = none := by
 cases hn : numF x with
 | none => rfl
 | some v => exact absurd (num_iff.2 hn).1 (h v)

def PuPost (w : World) (x : Tx) (e : Ending) (w' : World) : Prop :=
 Fr w w' ∧ ((∃ u : Nat, Lib.parseUintB 32 x = .ok u ∧ e = .returned (.tuple #[.int .u64 (u : Int), .nilIface])) ∨ ((∀ u, Lib.parseUintB 32 x ≠ .ok u) ∧ ∃ (n : Int) (t : TypeId) (q : Value), e = .returned (.tuple #[.int .u64 n, .iface t q])))
theorem fr_of_below {w w' : World} (h : Below w.heap.size w w') : Fr w w' := Kept.of_below h (fun i hi hb => absurd hb (by omega))
theorem parseU_any (x : Tx) (hx : x.length < 4294967296) (w : World) (hv : Env w) : Calls Tryz.prog 71 #[.string (bA x), .int .i64 10, .int .i64 32] w (PuPost w x) := by
 have hsz := bA_size x
 rcases h : Lib.parseUintB 32 x with u | _ | _
 · refine (Tryz.strconv_ParseUint_10_at32_ok (bA x) (by omega) u h w).mono ?_
   rintro e w' ⟨rfl, hw⟩
   refine ⟨?_, .inl ⟨u, h, rfl⟩⟩
   rcases hw with rfl | rfl
   · exact Kept.refl _ _
   · exact fr_of_below (Go.Joins.below_bytesWorld _ w _ _ (Nat.le_refl _))
 · obtain ⟨tp, p, hp⟩ := hv.syn
   refine (Go.Proofs.Any.strconv_ParseUint_10_at32_syntax_var Tryz.laysPu14 (bA x) (by omega) h tp p w hp).mono ?_
   rintro e w' ⟨N, rfl, _, _, hb⟩
   exact ⟨fr_of_below hb, .inr ⟨fun u hu => (by rw [h] at hu; cases hu), _, _, _, rfl⟩⟩
 · obtain ⟨tp, p, hp⟩ := hv.rng
   refine (Tryz.strconv_ParseUint_10_at32_range_var (bA x) (by omega) h tp p w hp).mono ?_
   rintro e w' ⟨N, rfl, _, _, hb⟩
   exact ⟨fr_of_below hb, .inr ⟨fun u hu => (by rw [h] at hu; cases hu), _, _, _, rfl⟩⟩

def numsF : List Tx → Option (List Nat)
 | [] => some []
 | x :: r => match numF x, numsF r with
   | some u, some l => some (u :: l)
   | _, _ => none
theorem numsF_snoc {l : List Tx} {x : Tx} {ns : List Nat} {u : Nat} (h : numsF l = some ns) (hu : numF x = some u) : numsF (l ++ [x]) = some (ns ++ [u]) := by
 induction l generalizing ns with
 | nil => simp [numsF] at h ⊢; subst h; simp [numsF, hu]
 | cons y l ih =>
   unfold numsF at h
   cases hy : numF y with
   | none => rw [hy] at h; simp at h
   | some v =>
     cases hl : numsF l with
     | none => rw [hy, hl] at h; simp at h
     | some ms =>
       rw [hy, hl] at h
       simp only [Option.some.injEq] at h
       subst h
       show (match numF y, numsF (l ++ [x]) with | some u, some l => some (u :: l) | _, _ => none) = _
       rw [hy, ih hl]
       rfl
theorem numsF_no {l : List Tx} {k : Nat} {x : Tx} (hx : l[k]? = some x) (hu : numF x = none) : numsF l = none := by
 induction l generalizing k with
 | nil => simp at hx
 | cons y l ih =>
   unfold numsF
   cases k with
   | zero => simp at hx; subst hx; rw [hu]
   | succ k =>
     simp at hx
     rw [ih hx]
     cases numF y <;> rfl
theorem numsF_len {l : List Tx} {ns : List Nat} (h : numsF l = some ns) : ns.length = l.length := by
 induction l generalizing ns with
 | nil => simp [numsF] at h; subst h; rfl
 | cons y l ih =>
   unfold numsF at h
   cases hy : numF y with
   | none => rw [hy] at h; simp at h
   | some v =>
     cases hl : numsF l with
     | none => rw [hy, hl] at h; simp at h
     | some ms =>
       rw [hy, hl] at h
       simp only [Option.some.injEq] at h
       subst h
       simp [ih hl]
theorem numF_lt {x : Tx} {u : Nat} (h : numF x = some u) : u < 4294967296 := parse_lt (num_iff.2 h).1
theorem numsF_lt {l : List Tx} {ns : List Nat} (h : numsF l = some ns) : ∀ n ∈ ns, n < 4294967296 := by
 induction l generalizing ns with
 | nil => simp [numsF] at h; subst h; simp
 | cons y l ih =>
   unfold numsF at h
   cases hy : numF y with
   | none => rw [hy] at h; simp at h
   | some v =>
     cases hl : numsF l with
     | none => rw [hy, hl] at h; simp at h
     | some ms =>
       rw [hy, hl] at h
       simp only [Option.some.injEq] at h
       subst h
       intro n hn
       rcases List.mem_cons.1 hn with rfl | hn
       · exact numF_lt hy
       · exact ih hl n hn
end Go.Proofs.YtodmkjeankbieaaGreatDoor


namespace Go.Proofs.YtodmkjeankbieaaGreatDoor
open Go.RowKit Go.Sort

def mkB (n : Nat) (f : Nat → Bool) : Array Value := ((List.range n).map fun t => Value.bool (f t)).toArray
theorem mkB_at {n : Nat} {f : Nat → Bool} {t : Nat} (h : t < n) : (mkB n f)[t]? = some (.bool (f t)) := by
 unfold mkB
 simp [List.getElem?_range h]
theorem mkB_set {n : Nat} {f : Nat → Bool} {t : Nat} {x : Bool} : (mkB n f).setIfInBounds t (.bool x) = mkB n (fun s => if s = t then x else f s) := by
 unfold mkB
 rw [List.setIfInBounds_toArray]
 congr 1
 apply List.ext_getElem
 · simp
 · intro i h1 h2
   simp at h1
   rw [List.getElem_set]
   by_cases h : t = i
   · subst h; simp
   · rw [if_neg h]
     simp
     intro e; exact absurd e.symm h
theorem mkB_congr {n : Nat} {f g : Nat → Bool} (h : ∀ t, t < n → f t = g t) : mkB n f = mkB n g := by
 unfold mkB
 congr 1
 apply List.map_congr_left
 intro t ht
 rw [h t (List.mem_range.1 ht)]
theorem made_mkB (n : Nat) : madeCells #[.bool false] n = mkB n (fun _ => false) := by
 unfold mkB
 apply Array.ext_getElem?
 intro i
 unfold madeCells
 rcases Nat.lt_or_ge i n with h | h
 · simp [List.getElem?_range h, h, Nat.mod_one]
 · simp [List.getElem?_eq_none, h, Nat.not_lt.2 h]
theorem mkB_list (n : Nat) (f : Nat → Bool) : (mkB n f).toList = ((List.range n).map f).map Value.bool := by unfold mkB; simp

theorem Blk.bcell {w : World} {g : Nat} {e : TypeId} {n : Nat} {f : Nat → Bool} (h : Blk w g e (mkB n f)) {t : Nat} (ht : t < n) : w.cell? ⟨g, t, none⟩ = some (.bool (f t)) := by
 rw [h.cell, mkB_at ht]
theorem Blk.bset {w : World} {g : Nat} {e : TypeId} {n : Nat} {f : Nat → Bool} (h : Blk w g e (mkB n f)) (t : Nat) (x : Bool) : Blk (w.setCell ⟨g, t, none⟩ (.bool x)) g e (mkB n fun s => if s = t then x else f s) := by
 have := h.set_ t (.bool x)
 rwa [mkB_set] at this
theorem RdBo.of_blk {w : World} {g : Nat} {e : TypeId} {n c : Nat} {f : Nat → Bool} {R : Nat → Prop} (h : Blk w g e (mkB n f)) (hR : R g) (hn : n ≤ maxLen) : RdBo w R (.slice (some ⟨g, 0, none⟩) n c) ((List.range n).map f) := by
 refine ⟨some ⟨g, 0, none⟩, c, by simp, by simpa using hn, by simp, fun _ => ⟨g, 0, rfl, hR, fun j u hu => ?_⟩⟩
 rw [Nat.zero_add, h.cell, ← hu, ← mkB_list]
 simp

def RdM (w : World) (R : Nat → Prop) (v : Value) (M : List (List Bool)) : Prop :=
 ∃ (A : Option Addr) (c : Nat) (vs : List Value), v = .slice A M.length c ∧ M.length ≤ maxLen ∧ Reads w R 1 A M.length vs ∧ ∀ (k : Nat) (row : List Bool), M[k]? = some row → ∃ u, vs[k]? = some u ∧ RdBo w R u row
theorem RdM.kept {w w' : World} {R S : Nat → Prop} {v : Value} {M : List (List Bool)} (h : RdM w R v M) (hk : Kept S w w') (hs : ∀ b, R b → ¬ S b) : RdM w' R v M := by
 obtain ⟨A, c, vs, e, hl, hr, hrow⟩ := h
 refine ⟨A, c, vs, e, hl, hr.kept hk hs, fun k row hk' => ?_⟩
 obtain ⟨u, h1, h2⟩ := hrow k row hk'
 exact ⟨u, h1, h2.kept hk hs⟩
theorem RdM.row {w : World} {R : Nat → Prop} {v : Value} {M : List (List Bool)} (h : RdM w R v M) {k : Nat} {row : List Bool} (hk : M[k]? = some row) :
   ∃ b off c u, v = .slice (some ⟨b, off, none⟩) M.length c ∧ R b ∧ b < w.heap.size ∧ w.cell? ⟨b, off + k, none⟩ = some u ∧ RdBo w R u row := by
 obtain ⟨A, c, vs, e, hl, hr, hrow⟩ := h
 have hkl : k < M.length := (List.getElem?_eq_some_iff.1 hk).1
 obtain ⟨b, off, rfl, hR, hc⟩ := hr.2 (by omega)
 obtain ⟨u, h1, h2⟩ := hrow k row hk
 have := hc k u h1
 exact ⟨b, off, c, u, e, hR, cell_lt this, this, h2⟩
theorem RdBo.at_ {w : World} {R : Nat → Prop} {v : Value} {l : List Bool} (h : RdBo w R v l) {k : Nat} {x : Bool} (hx : l[k]? = some x) : ∃ b off c, v = .slice (some ⟨b, off, none⟩) l.length c ∧ R b ∧ b < w.heap.size ∧ w.cell? ⟨b, off + k, none⟩ = some (.bool x) := by
 obtain ⟨A, c, rfl, _, hr⟩ := h
 have hk : k < l.length := (List.getElem?_eq_some_iff.1 hx).1
 obtain ⟨b, off, rfl, hR, hc⟩ := hr.2 (by omega)
 have := hc k (.bool x) (by rw [List.getElem?_map, hx]; rfl)
 exact ⟨b, off, c, rfl, hR, cell_lt this, this⟩
theorem RdBo.val {w : World} {R : Nat → Prop} {v : Value} {l : List Bool} (h : RdBo w R v l) : ∃ A c, v = .slice A l.length c := let ⟨A, c, e, _⟩ := h; ⟨A, c, e⟩
theorem RdM.val {w : World} {R : Nat → Prop} {v : Value} {l : List (List Bool)} (h : RdM w R v l) : ∃ A c, v = .slice A l.length c := let ⟨A, c, _, e, _⟩ := h; ⟨A, c, e⟩
theorem RdI.val {w : World} {R : Nat → Prop} {v : Value} {l : List Int} (h : RdI w R v l) : ∃ A c, v = .slice A l.length c := let ⟨A, c, e, _⟩ := h; ⟨A, c, e⟩

theorem infoBool : (Tryz.prog.info? 4).map (fun i => (i.zero, i.size, i.bytes)) = some (some (.bool false), 1, 1) := by kernel_rfl
theorem run_make_bools (n : Nat) (h : n ≤ 1000000) (w : World) : (Instr.makeSlice 25 (.int .i64 (n : Int)) (.int .i64 (n : Int))).run Tryz.prog w = .ok (.slice (some ⟨w.heap.size, 0, none⟩) n n) (w.alloc (.cells (mkB n fun _ => false) 4)) := by
 rw [← made_mkB]
 exact run_make_row' 25 4 (.bool false) 1 Tryz.underlying25 infoBool rfl .i64 .i64 n (by omega) (by omega) w
end Go.Proofs.YtodmkjeankbieaaGreatDoor


namespace Go.Proofs.YtodmkjeankbieaaGreatDoor
open Go.RowKit Go.Sort

def mfn (M : List (List Bool)) (k t : Nat) : Bool := (M.getD k []).getD t false
structure MatOk (p : Pg) (M : List (List Bool)) : Prop where
 len : M.length = p.code.length
 row : ∀ (k : Nat) (r : List Bool), M[k]? = some r → r.length = p.wide.length
theorem mfn_at {M : List (List Bool)} {k t : Nat} {r : List Bool} {x : Bool} (h : M[k]? = some r) (hx : r[t]? = some x) : mfn M k t = x := by
 unfold mfn
 rw [List.getD_eq_getElem?_getD, List.getD_eq_getElem?_getD, h]
 simp [hx]

def behTo (len : Nat) (M : List (List Bool)) (ns : List Int) (j t : Nat) : Bool := ((ns.take j).map Int.toNat).any fun m => decide (m < len) && mfn M m t
theorem behTo_s {len : Nat} {M : List (List Bool)} {ns : List Int} {j t : Nat} {n : Int} (h : ns[j]? = some n) : behTo len M ns (j + 1) t = (behTo len M ns j t || (decide (n.toNat < len) && mfn M n.toNat t)) := by
 unfold behTo
 rw [List.take_add_one, h]
 simp
theorem behTo_all {code : List In} {M : List (List Bool)} {k t : Nat} : behTo code.length M (nexts (inAt code k) k) (nexts (inAt code k) k).length t = behindM code (mfn M) k t := by
 unfold behTo behindM nx
 rw [List.take_length, List.any_filter]

theorem nexts_pos {p : Pg} {i : In} (hi : InsOk p i) {k : Nat} {n : Int} (h : n ∈ nexts i k) : 0 ≤ n := by
 unfold nexts at h
 split at h
 · simp at h; subst h; exact (hi.c (Or.inl ‹_›)).1
 · split at h
   · simp at h
   · split at h
     · simp at h
       rcases h with rfl | rfl
       · omega
       · exact (hi.c (Or.inr ‹_›)).1
     · simp at h; omega
theorem nexts_len (i : In) (k : Int) : (nexts i k).length ≤ 2 := by
 unfold nexts
 split
 · simp
 · split
   · simp
   · split <;> simp
def behIn (len : Nat) (M : List (List Bool)) (ns : List Int) (j x t s : Nat) : Bool := behTo len M ns j s || (decide (s < t) && mfn M x s)
theorem behIn_0 {len : Nat} {M : List (List Bool)} {ns : List Int} {j x s : Nat} : behTo len M ns j s = behIn len M ns j x 0 s := by unfold behIn; simp
theorem behIn_s {len : Nat} {M : List (List Bool)} {ns : List Int} {j x t s : Nat} {y : Bool} (hy : mfn M x t = y) : (if s = t then (behIn len M ns j x t t || y) else behIn len M ns j x t s) = behIn len M ns j x (t + 1) s := by
 unfold behIn
 by_cases h : s = t
 · subst h; rw [if_pos rfl, hy]; simp
 · rw [if_neg h]
   have : decide (s < t) = decide (s < t + 1) := by rw [decide_eq_decide]; omega
   rw [this]
theorem behIn_end {len : Nat} {M : List (List Bool)} {ns : List Int} {j x W s : Nat} (hs : s < W) (hx : x < len) : behIn len M ns j x W s = (behTo len M ns j s || (decide (x < len) && mfn M x s)) := by
 unfold behIn; simp [hs, hx]

structure BeMem (w wr : World) (vw vc : Value) (vn : Value) (ns : List Int) (W : Nat) (f : Nat → Bool) : Prop where
 bp : Blk wr w.heap.size 28 #[vw, vc]
 ob : Blk wr (w.heap.size + 1) 4 (mkB W f)
 ns : RdI wr (fun b => w.heap.size + 2 ≤ b) vn ns
 fr : Fr w wr
theorem BeMem.congr {w wr : World} {vw vc vn : Value} {ns : List Int} {W : Nat} {f g : Nat → Bool} (h : BeMem w wr vw vc vn ns W f) (hfg : ∀ t, t < W → f t = g t) : BeMem w wr vw vc vn ns W g :=
 ⟨h.bp, by rw [← mkB_congr hfg]; exact h.ob, h.ns, h.fr⟩
theorem BeMem.set {w wr : World} {vw vc vn : Value} {ns : List Int} {W : Nat} {f : Nat → Bool} (h : BeMem w wr vw vc vn ns W f) (t : Nat) (x : Bool) : BeMem w (wr.setCell ⟨w.heap.size + 1, t, none⟩ (.bool x)) vw vc vn ns W (fun s => if s = t then x else f s) := by
 have hk : Kept (fun b => b = w.heap.size + 1) wr (wr.setCell ⟨w.heap.size + 1, t, none⟩ (.bool x)) := (Kept.refl (fun b => b = w.heap.size + 1) wr).setCell (p := ⟨w.heap.size + 1, t, none⟩) (fun _ => rfl) _
 exact ⟨h.bp.far (by show w.heap.size ≠ w.heap.size + 1; omega) _, h.ob.bset t x, h.ns.kept hk (fun b hb e => by omega), h.fr.then hk (fun i hi e => by omega)⟩
theorem BeMem.cp {w wr : World} {vw vc vn : Value} {ns : List Int} {W : Nat} {f : Nat → Bool} (h : BeMem w wr vw vc vn ns W f) : wr.cell? ⟨w.heap.size, 0, none⟩ = some vw ∧ wr.cell? ⟨w.heap.size, 1, none⟩ = some vc := by
 have c0 := h.bp.cell 0
 have c1 := h.bp.cell 1
 simp only [List.getElem?_toArray, List.getElem?_cons_succ, List.getElem?_cons_zero] at c0 c1
 exact ⟨c0, c1⟩

set_option maxHeartbeats 2000000 in
set_option maxRecDepth 100000 in
theorem Behind_any (R R' : Nat → Prop) (v vn : Value) (p : Pg) (M : List (List Bool)) (k : Nat) (w : World) (h : RdPg w R v p) (hM : RdM w R' vn M) (hok : MatOk p M) (hmay : mayB p = true) (hk : k < p.code.length) :
   Calls Tryz.prog 22 #[v, vn, .int .i64 (k : Int)] w fun e w' => ∃ g, e = .returned (.slice (some ⟨g, 0, none⟩) p.wide.length p.wide.length) ∧ w.heap.size ≤ g ∧ Blk w' g 4 (mkB p.wide.length (behindM p.code (mfn M) k)) ∧ Fr w w' := by
 obtain ⟨l1, l2, l3, l4⟩ := mayB_len hmay
 have hi := insOk (mayB_ins hmay (inAt_mem hk))
 have HI := Lib.hid hi
 have H := Lib.hid h
 have HM := Lib.hid hM
 have HOK := Lib.hid hok
 have hML := Lib.hid hok.len
 obtain ⟨vw, vc, rfl, ⟨A, c, rfl, hl, hr⟩, ⟨A', c', rfl, hl', hr', ho'⟩⟩ := h
 obtain ⟨An, cn, rfl⟩ := hM.val
 have hx : p.code[k]? = some (inAt p.code k) := by rw [inAt_get hk]; exact List.getElem?_eq_getElem hk
 obtain ⟨b, off, rfl, _, d0, d1, d2, d3, d4, d5⟩ := (pg_code H.out).ins hx
 have hb := cell_lt d0
 have hmk := run_make_bools p.wide.length (by omega)
 have hNX := Lib.hid (fun (w : World) => Nexts_any (inAt p.code k) k w (by omega) (by omega))
 have HIA := Lib.hid (show inAt p.code k = inAt p.code k from rfl)
 rw [hML.out] at HM
 clear hr hr' ho' hx hi hok hM hl hl'
 generalize hii : inAt p.code k = i at d0 d1 d2 d3 d4 d5 hNX HI
 have Hii := Lib.hid hii
 clear hii
 obtain ⟨op, d, a, bb, cc, n⟩ := i
 unfold In.val at hNX
 simp only at d0 d1 d2 d3 d4 d5 hNX
 have hk0 : (0 : Int) ≤ (k : Int) := Int.natCast_nonneg _
 rw [hML.out]
 go_enter Tryz.func22, Tryz.ntmps22
 go_wp2_with fail
 refine (hNX.out _).mono ?_
 rintro e w1 ⟨v1, rfl, hn1, f1⟩
 have hpos := Lib.hid (fun x (hx : x ∈ nexts (⟨op, d, a, bb, cc, n⟩ : In) k) => nexts_pos HI.out hx)
 have hall := Lib.hid (fun t => behTo_all (code := p.code) (M := M) (k := k) (t := t))
 rw [Hii.out] at hall
 have hmem := Lib.hid (show BeMem w w1 (.slice A p.wide.length c) (.slice (some ⟨b, off, none⟩) p.code.length c') v1 (nexts ⟨op, d, a, bb, cc, n⟩ k) p.wide.length (behTo p.code.length M (nexts ⟨op, d, a, bb, cc, n⟩ k) 0) from by
   refine ⟨((Blk.new w _ _).alloc _).kept f1 (fun h => h), ?_, ?_, ((((Kept.refl _ w).alloc _).alloc _).trans f1)⟩
   · have := (Blk.new (w.alloc (.cells #[Value.slice A p.wide.length c, Value.slice (some ⟨b, off, none⟩) p.code.length c'] 28)) 4 (mkB p.wide.length fun _ => false)).kept f1 (fun h => h)
     rw [show (behTo p.code.length M (nexts ⟨op, d, a, bb, cc, n⟩ k) 0) = fun _ => false from by funext t; simp [behTo]]
     simpa using this
   · simpa using hn1)
 have hnl := nexts_len ⟨op, d, a, bb, cc, n⟩ (k : Int)
 clear hn1 f1 hNX hmk d0 d1 d2 d3 d4 d5 HIA
 generalize nexts (⟨op, d, a, bb, cc, n⟩ : In) (k : Int) = ns at *
 obtain ⟨A1, c1, rfl⟩ := hmem.out.ns.val
 go_wp2
 go_loopw [24] (fun i wr => ∃ j : Nat, j ≤ ns.length ∧ i = .int .i64 j ∧ Hid (BeMem w wr (.slice A p.wide.length c) (.slice (some ⟨b, off, none⟩) p.code.length c') (.slice A1 ns.length c1) ns p.wide.length (behTo p.code.length M ns j))) (fun i _ => ns.length - (intOf i).toNat)
 case atStart => exact ⟨0, Nat.zero_le _, rfl, hmem⟩
 case round =>
   obtain ⟨j, hj, rfl, hm⟩ := hrel
   clear hmem
   obtain ⟨p0, p1⟩ := hm.out.cp
   have hz := hm.out.ob.lt
   by_cases hlt : j < ns.length
   · have hx : ns[j]? = some ns[j] := List.getElem?_eq_getElem hlt
     obtain ⟨b3, o3, c3, hv, hR3, hb3, e0⟩ := hm.out.ns.at_ hx
     simp only [Value.slice.injEq] at hv
     obtain ⟨rfl, _, rfl⟩ := hv
     have hx0 := hpos.out _ (List.getElem_mem hlt)
     have HS := Lib.hid (fun t => behTo_s (len := p.code.length) (M := M) (t := t) hx)
     clear hx
     generalize ns[j] = x at *
     by_cases hxl : x < p.code.length
     · obtain ⟨r, hr⟩ : ∃ r, M[x.toNat]? = some r := ⟨_, List.getElem?_eq_getElem (by rw [hML.out]; omega)⟩
       have hrl := Lib.hid (HOK.out.row _ _ hr)
       obtain ⟨b4, o4, c4, u, hv, _, hb4, r0', hru⟩ := HM.out.row hr
       have r0 := (hm.out.fr.cell hb4).trans r0'
       have hb5 := cell_lt r0
       clear r0'
       simp only [Value.slice.injEq] at hv
       obtain ⟨rfl, _, rfl⟩ := hv
       obtain ⟨Ar, cr, rfl⟩ := hru.val
       have HR := Lib.hid hr
       clear hr
       rw [hrl.out] at r0 hru
       have HRU := Lib.hid hru
       clear hru
       have HS2 := Lib.hid (fun s (hs : s < p.wide.length) => (behIn_end (len := p.code.length) (M := M) (ns := ns) (j := j) (x := x.toNat) hs (by omega)).trans (HS.out s).symm)
       have HI0 := Lib.hid (hm.out.congr (g := behIn p.code.length M ns j x.toNat 0) (fun t _ => behIn_0))
       clear hm
       go_wp2
       obtain ⟨wo, rfl⟩ : ∃ wo : World, wo = wr := ⟨_, rfl⟩
       go_loopw [38] (fun i wr2 => ∃ t : Nat, t ≤ p.wide.length ∧ i = .int .i64 t ∧ Hid (BeMem w wr2 (.slice A p.wide.length c) (.slice (some ⟨b, off, none⟩) p.code.length c') (.slice (some ⟨b3, o3, none⟩) ns.length c1) ns p.wide.length (behIn p.code.length M ns j x.toNat t))) (fun i _ => p.wide.length - (intOf i).toNat)
       case atStart => exact ⟨0, Nat.zero_le _, rfl, HI0⟩
       case round =>
         obtain ⟨t, ht, rfl, hm⟩ := hrel
         clear HI0
         have hz2 := hm.out.ob.lt
         by_cases htl : t < p.wide.length
         · have hx : r[t]? = some (r[t]'(by rw [hrl.out]; exact htl)) := List.getElem?_eq_getElem _
           obtain ⟨b6, o6, c6, hv, _, hb6, e6⟩ := (HRU.out.kept hm.out.fr (fun _ _ h => h)).at_ hx
           simp only [Value.slice.injEq] at hv
           obtain ⟨rfl, _, rfl⟩ := hv
           have hy := mfn_at HR.out hx
           have q0 := hm.out.ob.bcell htl
           have y0 := hm.out.ob.frozen t
           have HN := Lib.hid ((hm.out.set t (behIn p.code.length M ns j x.toNat t t || r[t]'(by rw [hrl.out]; exact htl))).congr (fun s _ => behIn_s hy))
           clear hx hy
           generalize (r[t]'(by rw [hrl.out]; exact htl)) = y at *
           generalize behIn p.code.length M ns j x.toNat t t = z at *
           cases z <;> cases y
           all_goals
             go_wp2
             go_roundw
             case rel => exact ⟨t + 1, by omega, by go_num, HN⟩
             case measure => simp [intOf]; omega
         · obtain rfl : t = p.wide.length := by omega
           have HN := Lib.hid (hm.out.congr (g := behTo p.code.length M ns (j + 1)) (fun s hs => HS2.out s hs))
           go_wp2
           go_roundw
           case rel => exact ⟨j + 1, by omega, by go_num, HN⟩
           case measure => simp [intOf]; omega
     · have HN := Lib.hid (hm.out.congr (g := behTo p.code.length M ns (j + 1)) (fun t _ => by rw [HS.out t, decide_eq_false (by omega)]; simp))
       go_wp2
       go_roundw
       case rel => exact ⟨j + 1, by omega, by go_num, HN⟩
       case measure => simp [intOf]; omega
   · obtain rfl : j = ns.length := by omega
     have HN := Lib.hid (hm.out.congr (g := behindM p.code (mfn M) k) (fun t _ => hall.out t))
     go_wp2
     go_ret
     exact ⟨_, rfl, by omega, HN.out.ob, HN.out.fr⟩
end Go.Proofs.YtodmkjeankbieaaGreatDoor


namespace Go.Proofs.YtodmkjeankbieaaGreatDoor
open Go.RowKit Go.Sort

def mkS (n : Nat) (vs : Nat → Value) : Array Value := ((List.range n).map vs).toArray
theorem mkS_at {n : Nat} {vs : Nat → Value} {t : Nat} (h : t < n) : (mkS n vs)[t]? = some (vs t) := by
 unfold mkS
 simp [List.getElem?_range h]
theorem mkS_set {n : Nat} {vs : Nat → Value} {t : Nat} {x : Value} : (mkS n vs).setIfInBounds t x = mkS n (fun s => if s = t then x else vs s) := by
 unfold mkS
 rw [List.setIfInBounds_toArray]
 congr 1
 apply List.ext_getElem
 · simp
 · intro i h1 h2
   simp at h1
   rw [List.getElem_set]
   by_cases h : t = i
   · subst h; simp
   · rw [if_neg h]
     simp
     intro e; exact absurd e.symm h
theorem made_mkS (n : Nat) (z : Value) : madeCells #[z] n = mkS n (fun _ => z) := by
 unfold mkS
 apply Array.ext_getElem?
 intro i
 unfold madeCells
 rcases Nat.lt_or_ge i n with h | h
 · simp [List.getElem?_range h, h, Nat.mod_one]
 · simp [List.getElem?_eq_none, h, Nat.not_lt.2 h]
theorem infoBools : (Tryz.prog.info? 25).map (fun i => (i.zero, i.size, i.bytes)) = some (some (.slice none 0 0), 1, 24) := by kernel_rfl
theorem run_make_rows (n : Nat) (h : n ≤ 1000000) (w : World) : (Instr.makeSlice 39 (.int .i64 (n : Int)) (.int .i64 (n : Int))).run Tryz.prog w = .ok (.slice (some ⟨w.heap.size, 0, none⟩) n n) (w.alloc (.cells (mkS n fun _ => .slice none 0 0) 25)) := by
 rw [← made_mkS]
 exact run_make_row' 39 25 (.slice none 0 0) 24 Tryz.underlying39 infoBools rfl .i64 .i64 n (by omega) (by omega) w

structure LiMem (w wr : World) (vw vc : Value) (g0 L W j : Nat) (vs : Nat → Value) (M : Nat → Nat → Bool) : Prop where
 bp : Blk wr w.heap.size 28 #[vw, vc]
 ob : Blk wr g0 25 (mkS L vs)
 row : ∀ k, k < j → ∃ g, vs k = .slice (some ⟨g, 0, none⟩) W W ∧ w.heap.size < g ∧ Blk wr g 4 (mkB W (M k))
 fr : Fr w wr
 g0 : w.heap.size < g0
section
variable {w wr w2 : World} {vw vc : Value} {g0 L W j : Nat} {vs : Nat → Value} {M : Nat → Nat → Bool}
theorem LiMem.keep (h : LiMem w wr vw vc g0 L W j vs M) (hk : Fr wr w2) : LiMem w w2 vw vc g0 L W j vs M :=
 ⟨h.bp.kept hk (fun h => h), h.ob.kept hk (fun h => h), fun k hkj => let ⟨g, h1, h2, h3⟩ := h.row k hkj; ⟨g, h1, h2, h3.kept hk (fun h => h)⟩, h.fr.trans hk, h.g0⟩
theorem LiMem.cp (h : LiMem w wr vw vc g0 L W j vs M) : wr.cell? ⟨w.heap.size, 0, none⟩ = some vw ∧ wr.cell? ⟨w.heap.size, 1, none⟩ = some vc := by
 have c0 := h.bp.cell 0
 have c1 := h.bp.cell 1
 simp only [List.getElem?_toArray, List.getElem?_cons_succ, List.getElem?_cons_zero] at c0 c1
 exact ⟨c0, c1⟩
theorem LiMem.put (h : LiMem w wr vw vc g0 L W j vs M) {k g : Nat} {f : Nat → Bool} (hg : w.heap.size < g) (hb : Blk wr g 4 (mkB W f)) {j' : Nat} (hj : ∀ i, i < j' → i < j ∨ i = k) :
   LiMem w (wr.setCell ⟨g0, k, none⟩ (.slice (some ⟨g, 0, none⟩) W W)) vw vc g0 L W j' (fun s => if s = k then .slice (some ⟨g, 0, none⟩) W W else vs s) (setRow M k f) := by
 have hk : Kept (fun b => b = g0) wr (wr.setCell ⟨g0, k, none⟩ (.slice (some ⟨g, 0, none⟩) W W)) := (Kept.refl (fun b => b = g0) wr).setCell (p := ⟨g0, k, none⟩) (fun _ => rfl) _
 refine ⟨h.bp.kept hk (by have := h.g0; show ¬ w.heap.size = g0; omega), ?_, ?_, h.fr.then hk (fun i hi e => by have := h.g0; omega), h.g0⟩
 · have := h.ob.set_ k (.slice (some ⟨g, 0, none⟩) W W)
   rwa [mkS_set] at this
 · intro i hi
   by_cases e : i = k
   · subst e
     exact ⟨g, by rw [if_pos rfl], hg, by rw [setRow_same]; exact hb.kept hk (hb.ne_ h.ob (by decide))⟩
   · rcases hj i hi with h1 | h1
     · obtain ⟨g', h2, h3, h4⟩ := h.row i h1
       exact ⟨g', by rw [if_neg e]; exact h2, h3, by rw [setRow_ne e]; exact h4.kept hk (h4.ne_ h.ob (by decide))⟩
     · exact absurd h1 e
def matL (L W : Nat) (M : Nat → Nat → Bool) : List (List Bool) := (List.range L).map fun k => (List.range W).map (M k)
theorem matL_at {L W k : Nat} {M : Nat → Nat → Bool} (h : k < L) : (matL L W M)[k]? = some ((List.range W).map (M k)) := by
 unfold matL; simp [List.getElem?_range h]
theorem matL_fn {L W k t : Nat} {M : Nat → Nat → Bool} (hk : k < L) (ht : t < W) : mfn (matL L W M) k t = M k t :=
 mfn_at (matL_at hk) (by simp [List.getElem?_range ht])
theorem matL_ok {p : Pg} {M : Nat → Nat → Bool} : MatOk p (matL p.code.length p.wide.length M) :=
 ⟨by unfold matL; simp, fun k r h => by
   have hk : k < p.code.length := by have := (List.getElem?_eq_some_iff.1 h).1; unfold matL at this; simpa using this
   rw [matL_at hk] at h
   simp at h
   rw [← h]; simp⟩
theorem behind_matL {code : List In} {W k t : Nat} {M : Nat → Nat → Bool} (ht : t < W) : behindM code (mfn (matL code.length W M)) k t = behindM code M k t := by
 have h : ∀ m, m < code.length → mfn (matL code.length W M) m t = M m t := fun m hm => matL_fn hm ht
 rw [Bool.eq_iff_iff]
 exact ⟨behindM_mono fun m hm h1 => by rwa [h m hm] at h1, behindM_mono fun m hm h1 => by rwa [h m hm]⟩
theorem LiMem.rdm (h : LiMem w wr vw vc g0 L W L vs M) (hW : W ≤ 100) (hL : L ≤ 100) : RdM wr (fun b => w.heap.size < b) (.slice (some ⟨g0, 0, none⟩) L L) (matL L W M) := by
 have hm : (matL L W M).length = L := by unfold matL; simp
 refine ⟨some ⟨g0, 0, none⟩, L, (List.range L).map vs, by rw [hm], by rw [hm]; unfold maxLen; omega, ?_, ?_⟩
 · rw [hm]
   refine ⟨by simp, fun _ => ⟨g0, 0, rfl, h.g0, fun i u hu => ?_⟩⟩
   rw [Nat.zero_add, h.ob.cell, ← hu]
   unfold mkS
   simp
 · intro k r hk
   have hkL : k < L := by rw [← hm]; exact (List.getElem?_eq_some_iff.1 hk).1
   rw [matL_at hkL] at hk
   simp at hk
   subst hk
   obtain ⟨g, h1, h2, h3⟩ := h.row k hkL
   exact ⟨vs k, by simp [List.getElem?_range hkL], by rw [h1]; exact RdBo.of_blk h3 h2 (by unfold maxLen; omega)⟩
end

theorem setRow_zero (k : Nat) : setRow (fun _ _ => false) k (fun _ => false) = fun _ _ => false := by
 funext j; unfold setRow; split <;> rfl
def nowTo (i : In) (b : Nat → Bool) (u : List Int) (t : Nat) : Bool := u.contains (t : Int) || (!givesB i t && b t)
theorem nowTo_all (code : List In) (M : Nat → Nat → Bool) (k t : Nat) : nowTo (inAt code k) (behindM code M k) (uses (inAt code k)) t = stepM code M k t := rfl
theorem nowTo_0 {i : In} {b : Nat → Bool} {t : Nat} (hg : gvs i.op = false) : b t = nowTo i b [] t := by unfold nowTo givesB; simp [hg]
theorem nowTo_0g {i : In} {b : Nat → Bool} {t d : Nat} (hg : gvs i.op = true) (hd : i.d = (d : Int)) : (if t = d then false else b t) = nowTo i b [] t := by
 unfold nowTo givesB
 rw [hg, hd]
 by_cases h : t = d
 · subst h; simp
 · have : ¬ ((d : Int) = (t : Int)) := by omega
   simp [h, this]
theorem nowTo_s {i : In} {b : Nat → Bool} {u : List Int} {t x : Nat} : (if t = x then true else nowTo i b u t) = nowTo i b (u ++ [(x : Int)]) t := by
 unfold nowTo
 by_cases h : t = x
 · subst h; simp
 · have : ¬ ((t : Int) = (x : Int)) := by omega
   rw [if_neg h]; simp [this]

theorem uses_in {p : Pg} {i : In} (hi : InsOk p i) {u : Int} (hu : u ∈ uses i) : tempIn p u := by
 unfold uses at hu
 obtain ⟨k, hk⟩ := List.getElem?_of_mem hu
 rw [List.getElem?_take] at hk
 split at hk
 · match k, hk with
   | 0, hk => simp at hk; subst hk; exact hi.a (by omega)
   | 1, hk => simp at hk; subst hk; exact hi.b (by omega)
 · cases hk
def newTo (f m : Nat → Bool) (b : Bool) (t : Nat) : Bool := b || (List.range t).any fun s => f s && !m s
theorem newTo_0 (f m : Nat → Bool) (b : Bool) : newTo f m b 0 = b := by unfold newTo; simp
theorem newTo_s {f m : Nat → Bool} {b : Bool} {t : Nat} : newTo f m b (t + 1) = (newTo f m b t || (f t && !m t)) := by
 unfold newTo
 rw [List.range_succ, List.any_append, ← Bool.or_assoc]
 simp

def LivePost (w : World) (p : Pg) (e : Ending) (w' : World) : Prop :=
 Fr w w' ∧ ((mayB p = false ∧ e = .returned (.tuple #[.slice none 0 0, .int .i64 2])) ∨
   (mayB p = true ∧ ∃ g0, e = .returned (.tuple #[.slice (some ⟨g0, 0, none⟩) p.code.length p.code.length, .int .i64 0]) ∧ RdM w' (fun b => w.heap.size < b) (.slice (some ⟨g0, 0, none⟩) p.code.length p.code.length) (needM p)))
theorem needM_eq {p : Pg} {M : Nat → Nat → Bool} (h : ∀ k t, k < p.code.length → t < p.wide.length → M k t = needB p.code k t) : matL p.code.length p.wide.length M = needM p := by
 unfold matL needM
 apply List.map_congr_left
 intro k hk
 apply List.map_congr_left
 intro t ht
 exact h k t (List.mem_range.1 hk) (List.mem_range.1 ht)

set_option maxHeartbeats 4000000 in
set_option maxRecDepth 100000 in
theorem liveOf_any (R : Nat → Prop) (v : Value) (p : Pg) (w : World) (h : RdPg w R v p) : Calls Tryz.prog 19 #[v] w (LivePost w p) := by
 have H := Lib.hid h
 obtain ⟨vw, vc, rfl, ⟨A, c, rfl, hl, hr⟩, ⟨A', c', rfl, hl', hr', ho'⟩⟩ := h
 unfold maxLen at hl hl'
 clear hr hr' ho'
 have HMay := Lib.hid (fun w1 (hk : Fr w w1) => May_any R _ p w1 (H.out.kept hk (fun _ _ h => h)))
 have B0 := Lib.hid (Blk.new w 28 #[.slice A p.wide.length c, .slice A' p.code.length c'])
 have F0 := Lib.hid (show Fr w (w.alloc (.cells #[.slice A p.wide.length c, .slice A' p.code.length c'] 28)) from (Kept.refl _ w).alloc _)
 go_enter Tryz.func19, Tryz.ntmps19
 go_wp2_with fail
 cases hmay : mayB p with
 | false =>
   rw [hmay] at HMay
   refine (HMay.out _ F0.out).mono ?_
   rintro e w1 ⟨rfl, f1⟩
   have HE : Hid (Fr w w1) := F0.out.trans f1
   have HB := Lib.hid hmay
   clear hmay
   go_wp2
   go_ret2
   exact ⟨HE.out, Or.inl ⟨HB.out, rfl⟩⟩
 | true =>
   rw [hmay] at HMay
   refine (HMay.out _ F0.out).mono ?_
   rintro e w1 ⟨rfl, f1⟩
   obtain ⟨l1, l2, l3, l4⟩ := mayB_len hmay
   have HB := Lib.hid hmay
   have B1 := B0.out.kept f1 (fun h => h)
   have F1 : Hid (Fr w w1) := F0.out.trans f1
   have z1 := B1.lt
   have q0 := B1.cell 0
   have q1 := B1.cell 1
   simp only [List.getElem?_toArray, List.getElem?_cons_succ, List.getElem?_cons_zero] at q0 q1
   have hmk := run_make_bools p.wide.length (by omega)
   have hmr := run_make_rows p.code.length (by omega)
   have HM0 := Lib.hid (show LiMem w (w1.alloc (.cells (mkS p.code.length fun _ => .slice none 0 0) 25)) (.slice A p.wide.length c) (.slice A' p.code.length c') w1.heap.size p.code.length p.wide.length 0 (fun _ => .slice none 0 0) (fun _ _ => false) from
     ⟨B1.alloc _, Blk.new w1 _ _, fun k hk => by omega, F1.out.alloc _, z1⟩)
   clear B1 f1 hmay B0 F0 HMay
   go_wp2
   go_loopw [23] (fun i wr => ∃ (j : Nat) (vs : Nat → Value), j ≤ p.code.length ∧ i = .int .i64 j ∧ Hid (LiMem w wr (.slice A p.wide.length c) (.slice A' p.code.length c') w1.heap.size p.code.length p.wide.length j vs (fun _ _ => false))) (fun i _ => p.code.length - (intOf i).toNat)
   case atStart => exact ⟨0, _, Nat.zero_le _, rfl, HM0⟩
   case round =>
     obtain ⟨j, vs, hj, rfl, hm⟩ := hrel
     clear HM0 q0 q1
     obtain ⟨q0, q1⟩ := hm.out.cp
     have z2 := hm.out.ob.lt
     have z3 := hm.out.bp.lt
     by_cases hlt : j < p.code.length
     · have y0 := hm.out.ob.frozen j
       have HN := Lib.hid (LiMem.put (hm.out.keep ((Kept.refl _ wr).alloc (.cells (mkB p.wide.length fun _ => false) 4))) (k := j) (g := wr.heap.size) (f := fun _ => false) (by omega) (Blk.new wr _ _) (j' := j + 1) (fun i hi => by omega))
       rw [setRow_zero, World.setCell_alloc_past _ _ _ _ z2] at HN
       have y1 := hm.out.ob.cell j
       rw [mkS_at hlt] at y1
       go_wp2
       go_roundw
       case rel => exact ⟨j + 1, _, by omega, by go_num, HN⟩
       case measure => simp [intOf]; omega
     · obtain rfl : j = p.code.length := by omega
       go_wp2
       have HG := Lib.hid (Good.zero (code := p.code) (W := p.wide.length))
       clear hmr
       obtain ⟨wo, rfl⟩ : ∃ wo : World, wo = wr := ⟨_, rfl⟩
       go_loopg [6] (cntM p.code.length p.wide.length (fun _ _ => false) + 1) (fun gn ag wr => ∃ (vs : Nat → Value) (M : Nat → Nat → Bool) (b : Bool), ag = .bool b ∧ Hid (LiMem w wr (.slice A p.wide.length c) (.slice A' p.code.length c') w1.heap.size p.code.length p.wide.length p.code.length vs M) ∧
         Hid (Good p.code p.wide.length M ∧ (b = true → cntM p.code.length p.wide.length M + 1 ≤ gn) ∧ (b = false → ∀ k t, k < p.code.length → t < p.wide.length → M k t = needB p.code k t)))
       case atStart => exact ⟨vs, _, true, rfl, hm, ⟨HG.out, fun _ => Nat.le_refl _, fun h => by cases h⟩⟩
       case round =>
         obtain ⟨vs, M, b, rfl, hm, hgood⟩ := hrel
         clear q0 q1 z2 z3
         obtain ⟨q0, q1⟩ := hm.out.cp
         cases b with
         | false =>
           have HE := Lib.hid (needM_eq (hgood.out.2.2 rfl))
           have HR := Lib.hid (hm.out.rdm (by omega) (by omega))
           rw [HE.out] at HR
           go_wp2
           go_ret2
           exact ⟨hm.out.fr, Or.inr ⟨HB.out, _, rfl, HR.out⟩⟩
         | true =>
           have hgk := hgood.out.2.1 rfl
           have HRd := Lib.hid (Round.start hgood.out.1)
           have HG1 := Lib.hid hgk
           clear hgk
           go_wp2
           obtain ⟨wq, rfl⟩ : ∃ wq : World, wq = wr := ⟨_, rfl⟩
           go_loopw [6, 7] (fun ag i wr => ∃ (kk : Nat) (vs : Nat → Value) (M1 : Nat → Nat → Bool) (b : Bool), kk ≤ p.code.length ∧ i = .int .i64 ((kk : Int) - 1) ∧ ag = .bool b ∧ Hid (LiMem w wr (.slice A p.wide.length c) (.slice A' p.code.length c') w1.heap.size p.code.length p.wide.length p.code.length vs M1) ∧
             Hid (Round p.code p.wide.length M M1 b kk)) (fun _ i _ => (intOf i + 1).toNat)
           case atStart => exact ⟨p.code.length, vs, M, false, Nat.le_refl _, rfl, rfl, hm, HRd⟩
           case round =>
             obtain ⟨kk, vs2, M1, b, hkk, rfl, rfl, hm1, hrd⟩ := hrel
             clear hm HRd q0 q1
             obtain ⟨q0, q1⟩ := hm1.out.cp
             rcases Nat.eq_zero_or_pos kk with h0 | h0
             · subst h0
               have HD : Hid (b = false → ∀ k t, k < p.code.length → t < p.wide.length → M1 k t = needB p.code k t) := fun hb => by
                 have := hrd.out
                 rw [hb] at this
                 exact this.done
               have HL : Hid (b = true → cntM p.code.length p.wide.length M1 + 1 ≤ gk - 1) := fun hb => by
                 have h1 := hrd.out.less hb
                 have h2 := HG1.out
                 omega
               have HGd := Lib.hid hrd.out.good
               have hgp : Hid (0 < gk) := by have := HG1.out; show 0 < gk; omega
               go_wp2
               go_roundg (gk - 1)
               case measure => have := hgp.out; omega
               case rel => exact ⟨vs2, M1, b, rfl, hm1, ⟨HGd.out, HL.out, HD.out⟩⟩
             · obtain ⟨k, rfl⟩ : ∃ k, kk = k + 1 := ⟨kk - 1, by omega⟩
               rw [show (((k + 1 : Nat) : Int) - 1) = (k : Int) from by omega]
               have hk : k < p.code.length := by omega
               have hx : p.code[k]? = some (inAt p.code k) := by rw [inAt_get hk]; exact List.getElem?_eq_getElem hk
               obtain ⟨b3, o3, hA3, _, d0, d1, d2, d3, d4, d5⟩ := ((pg_code H.out).kept hm1.out.fr (fun _ _ h => h)).ins hx
               subst hA3
               have HI := Lib.hid (insOk (mayB_ins HB.out (inAt_mem hk)))
               have hb3 := cell_lt d0
               have hg0 := hm1.out.ob.lt
               have hz1 := hm1.out.bp.lt
               have HSt := Lib.hid (fun t => nowTo_all p.code M1 k t)
               clear hx
               generalize hii : inAt p.code k = i at d0 d1 d2 d3 d4 d5 HI HSt
               clear hii
               obtain ⟨op, d, a, bb, cc, n⟩ := i
               simp only at d0 d1 d2 d3 d4 d5
               have HU := Lib.hid (fun w => Uses_any (⟨op, d, a, bb, cc, n⟩ : In) w HI.out.kn)
               have HGv := Lib.hid (fun w => Gives_any (⟨op, d, a, bb, cc, n⟩ : In) w HI.out.kn)
               have HBe := Lib.hid (fun w2 (hf : Fr wr w2) => Behind_any R _ _ _ p (matL p.code.length p.wide.length M1) k w2 (H.out.kept (hm1.out.fr.trans hf) (fun _ _ h => h)) ((hm1.out.keep hf).rdm (by omega) (by omega)) matL_ok HB.out hk)
               unfold In.val at HU HGv
               simp only at HU HGv
               have hu2 : Hid ((uses (⟨op, d, a, bb, cc, n⟩ : In)).length ≤ 2) := by show _ ≤ 2; unfold uses; simp; omega
               obtain ⟨wB, rfl⟩ : ∃ wB : World, wB = wr := ⟨_, rfl⟩
               have BI := Lib.hid (Blk.new wB 45 #[.int .i64 op, .int .i64 d, .int .i64 a, .int .i64 bb, .int .i64 cc, .int .u32 n])
               go_wp2_with fail
               refine (HBe.out _ ((Kept.refl _ wB).alloc _)).mono ?_
               rintro e w2 ⟨g, rfl, hge, hb2, f2⟩
               have HFB := Lib.hid (((Kept.refl _ wB).alloc _).trans f2)
               have BI2 := Lib.hid (BI.out.kept f2 (fun h => h))
               have hb2' := hb2
               rw [mkB_congr (fun t ht => behind_matL (code := p.code) (k := k) (M := M1) ht)] at hb2'
               have HN2 := Lib.hid hb2'
               have HL2 := Lib.hid (hm1.out.keep HFB.out)
               have hgB' : wB.heap.size < g := by simp at hge; omega
               have hgB := Lib.hid hgB'
               have z4 := BI2.out.lt
               have z5 := HN2.out.lt
               have e0 := BI2.out.cell 0
               have e1 := BI2.out.cell 1
               have e2 := BI2.out.cell 2
               have e3 := BI2.out.cell 3
               have e4 := BI2.out.cell 4
               have e5 := BI2.out.cell 5
               simp only [List.getElem?_toArray, List.getElem?_cons_succ, List.getElem?_cons_zero] at e0 e1 e2 e3 e4 e5
               clear hb2 hb2' f2 hge HBe BI d0 d1 d2 d3 d4 d5 q0 q1
               go_wp2_with fail
               refine (HGv.out _).mono ?_
               rintro e w3 ⟨rfl, f3⟩
               have HF3 := Lib.hid (HFB.out.trans f3)
               have BI3 := Lib.hid (BI2.out.kept f3 (fun h => h))
               have HN3 := Lib.hid (HN2.out.kept f3 (fun h => h))
               have z4 := BI3.out.lt
               have z5 := HN3.out.lt
               have e0 := BI3.out.cell 0
               have e1 := BI3.out.cell 1
               have e2 := BI3.out.cell 2
               have e3 := BI3.out.cell 3
               have e4 := BI3.out.cell 4
               have e5 := BI3.out.cell 5
               simp only [List.getElem?_toArray, List.getElem?_cons_succ, List.getElem?_cons_zero] at e0 e1 e2 e3 e4 e5
               clear f3 BI2 HN2 HFB HL2 HGv
               cases hg : gvs op
               case' true =>
                 obtain ⟨dn, hdn, rfl⟩ : ∃ dn : Nat, dn < p.wide.length ∧ d = (dn : Int) := ⟨d.toNat, by have := HI.out.d hg; unfold tempIn at this; simp only at this; omega, by have := HI.out.d hg; unfold tempIn at this; simp only at this; omega⟩
                 have y0 := HN3.out.frozen dn
                 have y1 := HN3.out.bcell hdn
                 have HNs := Lib.hid (show Blk (w3.setCell ⟨g, dn, none⟩ (.bool false)) g 4 (mkB p.wide.length (nowTo ⟨op, (dn : Int), a, bb, cc, n⟩ (behindM p.code M1 k) [])) from by
                   have := HN3.out.bset dn false
                   rwa [mkB_congr (fun t _ => nowTo_0g (i := ⟨op, (dn : Int), a, bb, cc, n⟩) (b := behindM p.code M1 k) (t := t) hg rfl)] at this)
                 have HFs := Lib.hid (HF3.out.setCell (p := ⟨g, dn, none⟩) (fun hlt => by have := hgB.out; simp only at hlt; omega) (.bool false))
                 have BIs := Lib.hid (BI3.out.far (p := ⟨g, dn, none⟩) (by have := hgB.out; show wB.heap.size ≠ g; omega) (.bool false))
               case' false =>
                 have HNs := Lib.hid (show Blk w3 g 4 (mkB p.wide.length (nowTo ⟨op, d, a, bb, cc, n⟩ (behindM p.code M1 k) [])) from by
                   have := HN3.out
                   rwa [mkB_congr (fun t _ => nowTo_0 (i := ⟨op, d, a, bb, cc, n⟩) (b := behindM p.code M1 k) (t := t) hg)] at this)
                 have HFs := Lib.hid HF3.out
                 have BIs := Lib.hid BI3.out
               all_goals
                 clear HN3 HF3 BI3 hg
                 generalize hus : uses (⟨op, _, a, bb, cc, n⟩ : In) = us at HU hu2 HSt
                 have HUI := Lib.hid (show ∀ u ∈ us, tempIn p u from fun u hu => uses_in HI.out (by rw [hus]; exact hu))
                 clear hus
                 generalize hI : (⟨op, _, a, bb, cc, n⟩ : In) = I at HNs HSt
                 clear hI HI
                 go_wp2_with fail
                 refine (HU.out _).mono ?_
                 rintro e w5 ⟨v5, rfl, hu5, f5⟩
                 have HF5 := Lib.hid (HFs.out.trans f5)
                 have HN5 := Lib.hid (HNs.out.kept f5 (fun h => h))
                 have hg5 : Hid (g < w5.heap.size) := HN5.out.lt
                 have hgs := HNs.out.lt
                 have HU5 := Lib.hid (show RdI w5 (fun b => g < b) v5 _ from let ⟨A1, c1, h1, h2⟩ := hu5; ⟨A1, c1, h1, h2.more (fun b hb => Nat.lt_of_lt_of_le hgs hb)⟩)
                 obtain ⟨A5, c5, rfl⟩ := hu5.val
                 clear hu5 f5 HNs HFs BIs HU hgs e0 e1 e2 e3 e4 e5
                 go_wp2
                 have HST := Lib.hid (fun t (ht : t < p.wide.length) => HSt.out t)
                 have hul := hu2.out
                 go_loopw [61] (fun i wr => ∃ x : Nat, x ≤ us.length ∧ i = .int .i64 x ∧ Hid (Fr wB wr ∧ Blk wr g 4 (mkB p.wide.length (nowTo I (behindM p.code M1 k) (us.take x))) ∧ RdI wr (fun b => g < b) (.slice A5 us.length c5) us)) (fun i _ => us.length - (intOf i).toNat)
                 case atStart => exact ⟨0, Nat.zero_le _, rfl, ⟨HF5.out, HN5.out, HU5.out⟩⟩
                 case round =>
                   obtain ⟨x, hx, rfl, hq⟩ := hrel
                   clear HF5 HN5 HU5
                   have z6 := hq.out.2.1.lt
                   by_cases hlt : x < us.length
                   · have hxx : us[x]? = some us[x] := List.getElem?_eq_getElem hlt
                     obtain ⟨b6, o6, c6, hv, hR6, hb6, r0⟩ := hq.out.2.2.at_ hxx
                     simp only [Value.slice.injEq] at hv
                     obtain ⟨rfl, _, rfl⟩ := hv
                     obtain ⟨u0, u1⟩ := HUI.out _ (List.getElem_mem hlt)
                     have HX := Lib.hid hxx
                     clear hxx
                     generalize us[x] = u at *
                     obtain ⟨un, rfl⟩ : ∃ un : Nat, u = (un : Int) := ⟨u.toNat, by omega⟩
                     have hun : un < p.wide.length := by omega
                     have y0 := hq.out.2.1.frozen un
                     have y1 := hq.out.2.1.bcell hun
                     have HN6 : Hid (Fr wB (wr.setCell ⟨g, un, none⟩ (.bool true)) ∧ Blk (wr.setCell ⟨g, un, none⟩ (.bool true)) g 4 (mkB p.wide.length (nowTo I (behindM p.code M1 k) (us.take (x + 1)))) ∧ RdI (wr.setCell ⟨g, un, none⟩ (.bool true)) (fun b => g < b) (.slice (some ⟨b6, o6, none⟩) us.length c5) us) := by
                       refine ⟨hq.out.1.setCell (p := ⟨g, un, none⟩) (fun hlt => by have := hgB.out; simp only at hlt; omega) _, ?_, ?_⟩
                       · have := hq.out.2.1.bset un true
                         rw [List.take_add_one, HX.out]
                         rwa [mkB_congr (fun t _ => nowTo_s (i := I) (b := behindM p.code M1 k) (t := t) (x := un))] at this
                       · exact hq.out.2.2.kept ((Kept.refl (fun b => b = g) wr).setCell (p := ⟨g, un, none⟩) (fun _ => rfl) _) (fun b hb e => by omega)
                     go_wp2
                     go_roundw
                     case rel => exact ⟨x + 1, by omega, by go_num, HN6⟩
                     case measure => simp [intOf]; omega
                   · obtain rfl : x = us.length := by omega
                     have HL7 := Lib.hid (hm1.out.keep hq.out.1)
                     have HN7 : Hid (Blk wr g 4 (mkB p.wide.length (stepM p.code M1 k))) := by
                       have := hq.out.2.1
                       rw [List.take_length] at this
                       show Blk _ _ _ _
                       rwa [mkB_congr (fun t ht => HST.out t ht)] at this
                     clear hq HST hlt hx
                     obtain ⟨gk2, hvk, hgk2, hbk⟩ := HL7.out.row k hk
                     have r0 := HL7.out.ob.cell k
                     rw [mkS_at hk, hvk] at r0
                     have z7 := HL7.out.ob.lt
                     have z8 := hbk.lt
                     have HBK := Lib.hid hbk
                     have HVK := Lib.hid hvk
                     clear hvk hbk
                     go_wp2
                     go_loop [6, 71] (fun ag i => ∃ (t : Nat) (b' : Bool), t ≤ p.wide.length ∧ i = .int .i64 t ∧ ag = .bool b' ∧ Hid (b' = newTo (stepM p.code M1 k) (M1 k) b t)) (fun _ i => p.wide.length - (intOf i).toNat)
                     case atStart => exact ⟨0, b, Nat.zero_le _, rfl, rfl, (newTo_0 _ _ _).symm⟩
                     case round =>
                       obtain ⟨t, b', ht, rfl, rfl, hb'⟩ := hrel
                       by_cases htl : t < p.wide.length
                       · have m0 := HBK.out.bcell htl
                         have m1 := HN7.out.bcell htl
                         have HNx := Lib.hid (newTo_s (f := stepM p.code M1 k) (m := M1 k) (b := b) (t := t))
                         rw [← hb'.out] at HNx
                         generalize M1 k t = x1 at *
                         generalize stepM p.code M1 k t = x2 at *
                         cases b' <;> cases x1 <;> cases x2
                         all_goals
                           go_wp2
                           go_round
                           case rel => exact ⟨t + 1, _, by omega, by go_num, rfl, HNx.out.symm⟩
                           case measure => simp [intOf]; omega
                       · obtain rfl : t = p.wide.length := by omega
                         have HRS := Lib.hid (hrd.out.step hk hb'.out)
                         have HLP := Lib.hid (HL7.out.put (k := k) (g := g) (f := stepM p.code M1 k) (by have := hgB.out; omega) HN7.out (j' := p.code.length) (fun i hi => Or.inl hi))
                         have y7 := HL7.out.ob.frozen k
                         go_wp2
                         go_roundw
                         case rel => exact ⟨k, _, _, b', by omega, by go_num, rfl, HLP, HRS⟩
                         case measure => simp [intOf]
end Go.Proofs.YtodmkjeankbieaaGreatDoor

