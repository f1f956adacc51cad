/- Texts of this claim, packed. -/
import Derived.Lib.ParseIntB
import Derived.Lib.ItoaNum
import Derived.Lib.Split
import Derived.Lib.SplitLaws
import Derived.Lib.Strings
import Derived.Below
import Derived.Laws.OwnMore
import Derived.Deep.AppendLies
import Derived.Deep.Draws
import Derived.Maps.AppendAt
import Derived.OwnWalk
import Derived.Lib.QuietBelow
import Derived.Laws.Bits64
import Derived.IntWalk
import Derived.Maps.RangeWalk
import Derived.Maps.OwnSet
import Derived.DeepKeys4
import Derived.ArgAppend
set_option linter.all false
namespace Go.Proofs.YtodmkjeankbieaaGreatDoor

abbrev Tx := List UInt8
def digit (c : UInt8) : Bool := decide (48 ≤ c.toNat ∧ c.toNat ≤ 57)
def valF (acc : Nat) (l : Tx) : Nat := l.foldl (fun n c => 10 * n + (c.toNat - 48)) acc
theorem valF_cons (acc : Nat) (c : UInt8) (l : Tx) : valF acc (c :: l) = valF (10 * acc + (c.toNat - 48)) l := by simp only [valF, List.foldl_cons]
theorem valF_snoc (acc : Nat) (c : UInt8) (l : Tx) : valF acc (l ++ [c]) = 10 * valF acc l + (c.toNat - 48) := by simp only [valF, List.foldl_append, List.foldl_cons, List.foldl_nil]
theorem valF_ge : ∀ (l : Tx) (acc : Nat), acc ≤ valF acc l
 | [], acc => Nat.le_refl _
 | c :: l, acc => by
   rw [valF_cons]
   exact Nat.le_trans (by omega) (valF_ge l _)
def numF (s : Tx) : Option Nat :=
 if s.length < 1 ∨ 10 < s.length ∨ (s.head? = some 48 ∧ 1 < s.length) then none
 else if s.all digit = true then (if valF 0 s < 4294967296 then some (valF 0 s) else none) else none
open Go.Lib in
theorem parse_iff {M : Nat} (hM : M < 1844674407370955162) {u : Nat} : ∀ (l : Tx) (acc : Nat), acc ≤ M → (parseUintM M acc l = .ok u ↔ (l.all digit = true ∧ valF acc l = u ∧ u ≤ M))
 | [], acc, h => by
   unfold parseUintM
   simp only [NumEnd.ok.injEq, List.all_nil, true_and]
   constructor
   · rintro rfl; exact ⟨rfl, h⟩
   · rintro ⟨h1, _⟩; exact h1
 | c :: l, acc, h => by
   unfold parseUintM
   by_cases hd : 48 ≤ c.toNat ∧ c.toNat ≤ 57
   · rw [if_pos hd, if_neg (by omega)]
     have hdc : digit c = true := by unfold digit; simpa using hd
     have e : acc * 10 + (c.toNat - 48) = 10 * acc + (c.toNat - 48) := by omega
     by_cases hr : M < acc * 10 + (c.toNat - 48)
     · rw [if_pos hr]
       constructor
       · intro h; cases h
       · rintro ⟨_, h2, h3⟩
         have := valF_ge l (10 * acc + (c.toNat - 48))
         rw [valF_cons] at h2
         omega
     · rw [if_neg hr, parse_iff hM l _ (by omega), valF_cons, e]
       simp [hdc]
   · rw [if_neg hd]
     have hdc : digit c = false := by unfold digit; simpa using hd
     simp [hdc]
open Go.Lib in
theorem dec_step {acc : Nat} {c : UInt8} (ha : 1 ≤ acc) (hc : digit c = true) : decDigits (10 * acc + (c.toNat - 48)) = decDigits acc ++ [c] := by
 have hd : 48 ≤ c.toNat ∧ c.toNat ≤ 57 := of_decide_eq_true hc
 rw [decDigits, dif_neg (by omega)]
 congr 1
 · congr 1; omega
 · rw [show 48 + (10 * acc + (c.toNat - 48)) % 10 = c.toNat by omega]
   simp
open Go.Lib in
theorem dec_val : ∀ (l : Tx) (acc : Nat), 1 ≤ acc → l.all digit = true → decDigits (valF acc l) = decDigits acc ++ l
 | [], acc, _, _ => by simp [valF]
 | c :: l, acc, ha, hd => by
   rw [List.all_cons, Bool.and_eq_true] at hd
   rw [valF_cons, dec_val l _ (by omega) hd.2, dec_step ha hd.1, List.append_assoc]; rfl
open Go.Lib in
theorem dec_of {s : Tx} (hl : 1 ≤ s.length) (h0 : ¬ (s.head? = some 48 ∧ 1 < s.length)) (hd : s.all digit = true) : decDigits (valF 0 s) = s := by
 match s, hl with
 | c :: l, _ =>
   rw [List.all_cons, Bool.and_eq_true] at hd
   have hc : 48 ≤ c.toNat ∧ c.toNat ≤ 57 := of_decide_eq_true hd.1
   rw [valF_cons, Nat.mul_zero, Nat.zero_add]
   have h1 : decDigits (c.toNat - 48) = [c] := by
     rw [decDigits_one (by omega), show 48 + (c.toNat - 48) = c.toNat by omega]; simp
   by_cases hz : c.toNat = 48
   · have hcz : c = 48 := by
       apply UInt8.toNat_inj.1; simpa using hz
     subst hcz
     have : l = [] := by
       apply Classical.byContradiction
       intro hne
       have := List.length_pos_iff.2 hne
       exact h0 ⟨rfl, by simp; omega⟩
     subst this
     exact h1
   · rw [dec_val l _ (by omega) hd.2, h1]; rfl
open Go.Lib in
theorem dec_head {u : Nat} (hu : 10 ≤ u) : (decDigits u).head? ≠ some 48 := by
 induction u using Nat.strongRecOn with
 | _ u ih =>
   rw [decDigits, dif_neg (by omega)]
   have hne : decDigits (u / 10) ≠ [] := by
     intro hc
     have := decDigits_length (u / 10)
     rw [hc] at this
     unfold nDigits at this
     split at this <;> simp at this
   obtain ⟨z, r, hzr⟩ : ∃ z r, decDigits (u / 10) = z :: r := by
     cases h : decDigits (u / 10) with
     | nil => exact absurd h hne
     | cons z r => exact ⟨z, r, rfl⟩
   have hh : (decDigits (u / 10) ++ [UInt8.ofNat (48 + u % 10)]).head? = (decDigits (u / 10)).head? := by rw [hzr]; rfl
   rw [hh]
   by_cases h : 10 ≤ u / 10
   · exact ih (u / 10) (by omega) h
   · rw [decDigits_one (by omega)]
     simp only [List.head?_cons, ne_eq, Option.some.injEq]
     intro hc
     have := congrArg UInt8.toNat hc
     rw [UInt8.toNat_ofNat'] at this
     have h48 : (48 : UInt8).toNat = 48 := rfl
     rw [h48] at this
     omega
open Go.Lib in
theorem nDigits_32 {u : Nat} (h : u < 4294967296) : nDigits u ≤ 10 := by
 have h1 : ∀ k u : Nat, u < 10 ^ k → 1 ≤ k → nDigits u ≤ k := by
   intro k
   induction k with
   | zero => intro u _ h; omega
   | succ k ih =>
     intro u hu _
     unfold nDigits
     split
     · omega
     · rename_i h10
       have : nDigits (u / 10) ≤ k := ih (u / 10) (by rw [Nat.pow_succ] at hu; omega) (by
         apply Classical.byContradiction
         intro hk
         have : k = 0 := by omega
         subst this
         simp at hu; omega)
       omega
 exact h1 10 u (by omega) (by omega)
open Go.Lib in
theorem num_iff {s : Tx} {u : Nat} : (parseUintB 32 s = .ok u ∧ decDigits u = s) ↔ numF s = some u := by
 unfold parseUintB numF
 constructor
 · rintro ⟨h1, h2⟩
   have hs : s ≠ [] := by
     intro hc; rw [if_pos hc] at h1; cases h1
   rw [if_neg hs, parse_iff (by decide) s 0 (by decide)] at h1
   obtain ⟨h3, h4, h5⟩ := h1
   have h6 : u < 4294967296 := by have : (2 : Nat) ^ 32 - 1 = 4294967295 := by decide
                                  omega
   have hlen : s.length = nDigits u := by rw [← h2, decDigits_length]
   have h7 := nDigits_32 h6
   have hpos := List.length_pos_iff.2 hs
   rw [if_neg (by
     rintro (h | h | ⟨h, h'⟩)
     · omega
     · omega
     · by_cases hu : 10 ≤ u
       · rw [← h2] at h; exact dec_head hu h
       · have := nDigits_small (u := u) (by omega); omega), if_pos h3, h4, if_pos h6]
 · intro h
   split at h
   · cases h
   · rename_i hc
     split at h
     · rename_i hd
       split at h
       · rename_i hv
         injection h with h
         have hs : s ≠ [] := by intro e; subst e; exact hc (Or.inl (by simp))
         rw [if_neg hs, parse_iff (by decide) s 0 (by decide)]
         refine ⟨⟨hd, h, by have : (2 : Nat) ^ 32 - 1 = 4294967295 := by decide
                            omega⟩, ?_⟩
         rw [← h]
         exact dec_of (List.length_pos_iff.2 hs) (fun hh => hc (Or.inr (Or.inr hh))) hd
       · cases h
     · cases h

def glue (p : Tx) : List Tx → List Tx
 | [] => [p]
 | x :: r => (p ++ x) :: r
def partsL (b : UInt8) : Tx → List Tx
 | [] => [[]]
 | c :: l => if c = b then [] :: partsL b l else glue [c] (partsL b l)
theorem partsL_ne (b : UInt8) : ∀ l, partsL b l ≠ []
 | [] => by simp [partsL]
 | c :: l => by
   unfold partsL
   split
   · simp
   · cases partsL b l <;> simp [glue]
theorem glue_nil {b : UInt8} {l : Tx} : glue [] (partsL b l) = partsL b l := by
 cases h : partsL b l with
 | nil => exact absurd h (partsL_ne b l)
 | cons x r => rfl
theorem glue_glue (p q : Tx) (L : List Tx) : glue p (glue q L) = glue (p ++ q) L := by
 cases L with
 | nil => rfl
 | cons x r => simp [glue]
theorem partsL_app (b : UInt8) : ∀ (x y : Tx), partsL b (x ++ b :: y) = partsL b x ++ partsL b y
 | [], y => by
   show (if b = b then [] :: partsL b y else _) = _
   rw [if_pos rfl]; rfl
 | c :: x, y => by
   show (if c = b then [] :: partsL b (x ++ b :: y) else glue [c] (partsL b (x ++ b :: y))) = (if c = b then [] :: partsL b x else glue [c] (partsL b x)) ++ partsL b y
   rw [partsL_app b x y]
   split
   · rfl
   · cases h : partsL b x with
     | nil => exact absurd h (partsL_ne b x)
     | cons z r => rfl
theorem partsL_len (b : UInt8) (l : Tx) : (partsL b l).length ≤ l.length + 1 := by
 induction l with
 | nil => simp [partsL]
 | cons c l ih =>
   unfold partsL
   split
   · simp; omega
   · cases h : partsL b l with
     | nil => simp [glue]
     | cons z r => rw [h] at ih; simp [glue] at ih ⊢; omega
theorem parts_none {b : UInt8} : ∀ {l : Tx}, b ∉ l → partsL b l = [l]
 | [], _ => rfl
 | c :: l, h => by
   rw [List.mem_cons, not_or] at h
   unfold partsL
   rw [if_neg (fun e => h.1 e.symm), parts_none h.2]; rfl
theorem idx_of (b : UInt8) : ∀ l : Tx, (b ∉ l ∧ Lib.index l [b] = -1) ∨ ∃ x y, l = x ++ b :: y ∧ b ∉ x ∧ Lib.index l [b] = (x.length : Int)
 | [] => Or.inl ⟨by simp, by simp [Lib.index]⟩
 | c :: l => by
   by_cases hc : c = b
   · subst hc
     exact Or.inr ⟨[], l, rfl, by simp, by simp [Lib.index]⟩
   · have hp : ([b] : List UInt8).isPrefixOf (c :: l) = false := by
       simp [List.isPrefixOf, hc, Ne.symm hc]
     rcases idx_of b l with ⟨h1, h2⟩ | ⟨x, y, h1, h2, h3⟩
     · refine Or.inl ⟨by simp [h1, Ne.symm hc], ?_⟩
       unfold Lib.index
       rw [hp, h2]; rfl
     · refine Or.inr ⟨c :: x, y, by rw [h1]; rfl, by simp [h2, Ne.symm hc], ?_⟩
       unfold Lib.index
       rw [hp, h3, if_neg (by decide), if_neg (by
         intro hh
         have := beq_iff_eq.1 hh
         omega)]
       simp
theorem splitK_parts (b : UInt8) : ∀ (k : Nat) (l : Tx), l.count b ≤ k → Lib.splitK [b] 0 k l = partsL b l
 | 0, l, h => by
   have : b ∉ l := by
     intro hm
     have := List.count_pos_iff.2 hm
     omega
   rw [parts_none this]; rfl
 | k + 1, l, h => by
   unfold Lib.splitK
   rcases idx_of b l with ⟨h1, h2⟩ | ⟨x, y, h1, h2, h3⟩
   · rw [h2, parts_none h1]; rfl
   · rw [h3, if_neg (by
       intro hh
       have := beq_iff_eq.1 hh
       omega)]
     have e1 : ((x.length : Int)).toNat = x.length := by omega
     rw [e1, Nat.add_zero, List.length_singleton]
     have e2 : l.take x.length = x := by rw [h1]; simp
     have e3 : l.drop (x.length + 1) = y := by rw [h1, List.drop_append]; simp
     rw [e2, e3, splitK_parts b k y (by rw [h1, List.count_append, List.count_cons_self] at h; omega), h1, partsL_app, parts_none h2]
     rfl
theorem count_le_from (b : UInt8) : ∀ (f : Nat) (l : Tx), l.length < f → l.count b ≤ Lib.countFrom [b] f l
 | 0, l, h => by omega
 | f + 1, l, h => by
   unfold Lib.countFrom
   rcases idx_of b l with ⟨h1, h2⟩ | ⟨x, y, h1, h2, h3⟩
   · rw [List.count_eq_zero.2 h1]; omega
   · rw [h3, if_neg (by
       intro hh
       have := beq_iff_eq.1 hh
       omega)]
     have e1 : ((x.length : Int)).toNat = x.length := by omega
     rw [e1, List.length_singleton]
     have e3 : l.drop (x.length + 1) = y := by rw [h1, List.drop_append]; simp
     rw [e3]
     have := count_le_from b f y (by rw [h1] at h; simp at h; omega)
     rw [h1, List.count_append, List.count_cons_self, List.count_eq_zero.2 h2]
     omega
def bA (l : Tx) : ByteArray := ⟨l.toArray⟩
theorem bA_data (l : Tx) : (bA l).data.toList = l := rfl
theorem bA_app (l m : Tx) : bA (l ++ m) = bA l ++ bA m := by
 apply ByteArray.ext
 show (l ++ m).toArray = (bA l ++ bA m).data
 rw [ByteArray.data_append]
 show _ = l.toArray ++ m.toArray
 simp
theorem split_parts (b : UInt8) (l : Tx) : Lib.splitB (bA [b]) 0 (Lib.countB (bA l) (bA [b])) (bA l) = (partsL b l).map bA := by
 have h := Lib.splitB_data (bA [b]) 0 (Lib.countB (bA l) (bA [b])) (bA l)
 have e : Lib.splitK [b] 0 (Lib.countB (bA l) (bA [b])) l = partsL b l := splitK_parts b _ l (count_le_from b (l.length + 1) l (by omega))
 have h2 : (Lib.splitB (bA [b]) 0 (Lib.countB (bA l) (bA [b])) (bA l)).map (fun s => s.data.toList) = partsL b l := h.trans e
 rw [← h2, List.map_map]
 conv => lhs; rw [← List.map_id (Lib.splitB (bA [b]) 0 (Lib.countB (bA l) (bA [b])) (bA l))]
 apply List.map_congr_left
 intro s _
 rfl
end Go.Proofs.YtodmkjeankbieaaGreatDoor


namespace Go.Proofs.YtodmkjeankbieaaGreatDoor
open Go.RowKit

theorem cell_lt {w : World} {b o : Nat} {v : Value} (h : w.cell? ⟨b, o, none⟩ = some v) : b < w.heap.size := by
 unfold World.cell? at h
 rcases Nat.lt_or_ge b w.heap.size with hlt | hge
 · exact hlt
 · rw [Array.getElem?_eq_none hge] at h; cases h

structure Kept (S : Nat → Prop) (w w' : World) : Prop where
 os : w'.os = w.os
 tape : w'.tape = w.tape
 output : w'.output = w.output
 size : w.heap.size ≤ w'.heap.size
 block : ∀ k, k < w.heap.size → ¬ S k → w'.heap[k]? = w.heap[k]?

theorem Kept.refl (S : Nat → Prop) (w : World) : Kept S w w := ⟨rfl, rfl, rfl, Nat.le_refl _, fun _ _ _ => rfl⟩
theorem Kept.trans {S : Nat → Prop} {a b c : World} (h : Kept S a b) (k : Kept S b c) : Kept S a c :=
 ⟨k.os.trans h.os, k.tape.trans h.tape, k.output.trans h.output, Nat.le_trans h.size k.size, fun i hi hs => (k.block i (Nat.lt_of_lt_of_le hi h.size) hs).trans (h.block i hi hs)⟩
theorem Kept.then {S T : Nat → Prop} {a b c : World} (h : Kept S a b) (k : Kept T b c) (ht : ∀ i, i < a.heap.size → T i → S i) : Kept S a c :=
 ⟨k.os.trans h.os, k.tape.trans h.tape, k.output.trans h.output, Nat.le_trans h.size k.size, fun i hi hs => (k.block i (Nat.lt_of_lt_of_le hi h.size) (fun hc => hs (ht i hi hc))).trans (h.block i hi hs)⟩
theorem Kept.mono {S T : Nat → Prop} {a b : World} (h : Kept S a b) (hs : ∀ i, i < a.heap.size → S i → T i) : Kept T a b :=
 ⟨h.os, h.tape, h.output, h.size, fun i hi ht => h.block i hi fun hc => ht (hs i hi hc)⟩
theorem Kept.of_below {S : Nat → Prop} {B : Nat} {a b : World} (h : Below B a b) (hs : ∀ i, i < a.heap.size → B ≤ i → S i) : Kept S a b :=
 ⟨h.os, h.tape, h.output, h.size, fun i hi hn => h.block i (Nat.lt_of_not_le fun hc => hn (hs i hi hc))⟩
theorem Kept.below {S : Nat → Prop} {B : Nat} {a b : World} (h : Kept S a b) (hB : B ≤ a.heap.size) (hs : ∀ i, S i → B ≤ i) : Below B a b :=
 ⟨h.os, h.tape, h.output, h.size, fun k hk => h.block k (by omega) fun hc => by have := hs k hc; omega⟩
theorem Kept.alloc {S : Nat → Prop} {a w : World} (h : Kept S a w) (o : Obj) : Kept S a (w.alloc o) :=
 h.trans ⟨rfl, rfl, rfl, by simp, fun k hk _ => Below.heap_alloc _ _ _ (by omega)⟩
theorem Kept.setCell {S : Nat → Prop} {a w : World} (h : Kept S a w) {p : Addr} (hp : p.block < a.heap.size → S p.block) (u : Value) : Kept S a (w.setCell p u) :=
 ⟨h.os, h.tape, h.output, Nat.le_trans h.size (by simp [World.setCell]), fun k hk hs => (Below.heap_setCell _ _ _ _ (fun e => hs (by rw [e]; exact hp (by omega)))).trans (h.block k hk hs)⟩
theorem Kept.drew {S : Nat → Prop} {a w : World} (h : Kept S a w) : Kept S a w.drew := ⟨h.os, h.tape, h.output, h.size, h.block⟩
theorem Kept.grown {S : Nat → Prop} {a w w' : World} {row : Option Nat} (h : Kept S a w) (hg : w.grownBy w' row) (hr : ∀ k, k < a.heap.size → row = some k → S k) : Kept S a w' :=
 ⟨hg.os.trans h.os, hg.tape.trans h.tape, hg.output.trans h.output, Nat.le_trans h.size hg.size, fun k hk hs => (hg.block k (Nat.lt_of_lt_of_le hk h.size) (fun e => hs (hr k hk e.symm))).trans (h.block k hk hs)⟩
theorem Kept.cell {S : Nat → Prop} {w w' : World} (h : Kept S w w') {p : Addr} (hp : p.block < w.heap.size) (hs : ¬ S p.block) : w'.cell? p = w.cell? p :=
 World.cell?_of_block (w := w) (h.block p.block hp hs)

def Reads (w : World) (R : Nat → Prop) (size : Nat) (A : Option Addr) (n : Nat) (xs : List Value) : Prop :=
 xs.length = n * size ∧ (0 < n → ∃ b off, A = some ⟨b, off, none⟩ ∧ R b ∧ ∀ j u, xs[j]? = some u → w.cell? ⟨b, off + j, none⟩ = some u)

section
variable {w w' : World} {R R' : Nat → Prop} {size n : Nat} {A : Option Addr} {xs : List Value}
theorem Reads.none_ : Reads w R size A 0 [] := ⟨by simp, fun h => absurd h (by omega)⟩
theorem Reads.keep (h : Reads w R size A n xs) (hk : ∀ p : Addr, R p.block → w'.cell? p = w.cell? p) : Reads w' R size A n xs :=
 ⟨h.1, fun hn => by
   obtain ⟨b, off, e, hb, hc⟩ := h.2 hn
   exact ⟨b, off, e, hb, fun j u hu => (hk _ hb).trans (hc j u hu)⟩⟩
theorem Reads.more (h : Reads w R size A n xs) (hB : ∀ b, R b → R' b) : Reads w R' size A n xs :=
 ⟨h.1, fun hn => by
   obtain ⟨b, off, e, hb, hc⟩ := h.2 hn
   exact ⟨b, off, e, hB _ hb, hc⟩⟩
theorem Reads.kept {S : Nat → Prop} (h : Reads w R size A n xs) (hk : Kept S w w') (hs : ∀ b, R b → ¬ S b) : Reads w' R size A n xs :=
 ⟨h.1, fun hn => by
   obtain ⟨b, off, e, hb, hc⟩ := h.2 hn
   exact ⟨b, off, e, hb, fun j u hu => (hk.cell (p := ⟨b, off + j, none⟩) (cell_lt (hc j u hu)) (hs b hb)).trans (hc j u hu)⟩⟩
end

def Blk (w : World) (g : Nat) (t : TypeId) (cs : Array Value) : Prop := w.heap[g]? = some (.cells cs t (0, 0))

section
variable {w w' : World} {g : Nat} {t : TypeId} {cs : Array Value}
theorem Blk.lt (h : Blk w g t cs) : g < w.heap.size := by
 rcases Nat.lt_or_ge g w.heap.size with hlt | hge
 · exact hlt
 · unfold Blk at h; rw [Array.getElem?_eq_none hge] at h; cases h
theorem Blk.cell (h : Blk w g t cs) (i : Nat) : w.cell? ⟨g, i, none⟩ = cs[i]? := cell_of_row w g i cs t (0, 0) h
theorem Blk.frozen (h : Blk w g t cs) (i : Nat) : w.frozen? ⟨g, i, none⟩ = false := by
 unfold Blk at h
 simp [World.frozen?, h]
theorem Blk.new (w : World) (t : TypeId) (cs : Array Value) : Blk (w.alloc (.cells cs t)) w.heap.size t cs := heap_alloc_new w _
theorem Blk.drew (h : Blk w g t cs) : Blk w.drew g t cs := h
theorem Blk.alloc (h : Blk w g t cs) (o : Obj) : Blk (w.alloc o) g t cs := (Below.heap_alloc w o g h.lt).trans h
theorem Blk.set_ (h : Blk w g t cs) (i : Nat) (u : Value) : Blk (w.setCell ⟨g, i, none⟩ u) g t (cs.setIfInBounds i u) := by
 unfold Blk at h ⊢
 simp [World.setCell, Array.getElem?_modify, h]
theorem Blk.far (h : Blk w g t cs) {p : Addr} (hp : g ≠ p.block) (u : Value) : Blk (w.setCell p u) g t cs := (Below.heap_setCell w p u g hp).trans h
theorem Blk.kept {S : Nat → Prop} (h : Blk w g t cs) (hb : Kept S w w') (hg : ¬ S g) : Blk w' g t cs := (hb.block g h.lt hg).trans h
theorem Blk.ne_ {g' : Nat} {t' : TypeId} {cs' : Array Value} (h : Blk w g t cs) (h' : Blk w g' t' cs') (hne : t ≠ t') : g ≠ g' := by
 rintro rfl
 unfold Blk at h h'
 rw [h] at h'
 injection h' with h'
 injection h' with _ ht
 exact hne ht
theorem own_blk_ne {base : Nat} {e : TypeId} {size n : Nat} {v : Value} {xs : List Value} (h : w.ownsRow base e size v n xs) (hg : Blk w g t cs) (hne : e ≠ t) : v.ownBlock ≠ some g := by
 rcases h.2 with ⟨rfl, _⟩ | ⟨g', cap, cur, rfl, _, hh, _⟩
 · simp [Value.ownBlock]
 · intro he
   have : g' = g := by simpa [Value.ownBlock] using he
   subst this
   exact Blk.ne_ (t := e) hh hg hne rfl
end

theorem own_kept {w w' : World} {S : Nat → Prop} {base : Nat} {e : TypeId} {size n : Nat} {v : Value} {xs : List Value} (h : w.ownsRow base e size v n xs) (hk : Kept S w w')
   (hs : ∀ g, v.ownBlock = some g → ¬ S g) : w'.ownsRow base e size v n xs := by
 obtain ⟨h1, h2⟩ := h
 refine ⟨h1, ?_⟩
 rcases h2 with h2 | ⟨g, cap, cur, hv, hg, hh, r⟩
 · exact Or.inl h2
 · have hlt : g < w.heap.size := (Array.getElem?_eq_some_iff.1 hh).1
   exact Or.inr ⟨g, cap, cur, hv, hg, by rw [hk.block g hlt (hs g (by rw [hv]; rfl))]; exact hh, r⟩

theorem own_lt {w : World} {base : Nat} {e : TypeId} {size n : Nat} {v : Value} {xs : List Value} (h : w.ownsRow base e size v n xs) {g : Nat} (hg : v.ownBlock = some g) : base ≤ g ∧ g < w.heap.size := by
 rcases h.2 with ⟨rfl, _⟩ | ⟨g', cap, cur, rfl, hb, hh, _⟩
 · simp [Value.ownBlock] at hg
 · have : g' = g := by simpa [Value.ownBlock] using hg
   subst this
   exact ⟨hb, (Array.getElem?_eq_some_iff.1 hh).1⟩

theorem flat_len {α : Type} (f : α → List Value) (s : Nat) (hs : ∀ x, (f x).length = s) : ∀ l : List α, (l.flatMap f).length = l.length * s
 | [] => by simp
 | x :: l => by rw [List.flatMap_cons, List.length_append, hs, flat_len f s hs l, List.length_cons, Nat.succ_mul]; omega
theorem flat_get {α : Type} (f : α → List Value) (s : Nat) (hs : ∀ x, (f x).length = s) : ∀ (l : List α) (k j : Nat) (x : α), l[k]? = some x → j < s → (l.flatMap f)[k * s + j]? = (f x)[j]?
 | [], k, j, x, h, _ => by simp at h
 | y :: l, 0, j, x, h, hj => by
   simp at h
   subst h
   rw [List.flatMap_cons, Nat.zero_mul, Nat.zero_add, List.getElem?_append_left (by rw [hs]; exact hj)]
 | y :: l, k + 1, j, x, h, hj => by
   rw [List.flatMap_cons, List.getElem?_append_right (by rw [hs, Nat.succ_mul]; omega), hs]
   have e : (k + 1) * s + j - s = k * s + j := by rw [Nat.succ_mul]; omega
   rw [e]
   exact flat_get f s hs l k j x (by simpa using h) hj

theorem Reads.elem {α : Type} {w : World} {R : Nat → Prop} {A : Option Addr} {n : Nat} {f : α → List Value} {s : Nat} {l : List α} (h : Reads w R s A n (l.flatMap f)) (hs : ∀ x, (f x).length = s) (h0 : 0 < s) :
   n = l.length ∧ (0 < n → ∃ b off, A = some ⟨b, off, none⟩ ∧ R b ∧ ∀ k x, l[k]? = some x → ∀ j u, (f x)[j]? = some u → w.cell? ⟨b, off + (k * s + j), none⟩ = some u) := by
 have e : n = l.length := by
   have := h.1
   rw [flat_len f s hs] at this
   exact Nat.eq_of_mul_eq_mul_right h0 this.symm
 refine ⟨e, fun hn => ?_⟩
 obtain ⟨b, off, hA, hR, hc⟩ := h.2 hn
 refine ⟨b, off, hA, hR, fun k x hx j u hu => hc _ u ?_⟩
 have hj : j < s := by
   rcases Nat.lt_or_ge j s with hj | hj
   · exact hj
   · rw [List.getElem?_eq_none (by rw [hs]; exact hj)] at hu; cases hu
 rw [flat_get f s hs l k j x hx hj]
 exact hu

abbrev Fr (w w' : World) : Prop := Kept (fun _ => False) w w'
theorem Fr.below {w w' : World} (h : Fr w w') : Below w.heap.size w w' := Kept.below h (Nat.le_refl _) (fun _ h => h.elim)
theorem Fr.of_below {w w' : World} (h : Below w.heap.size w w') : Fr w w' := Kept.of_below h (fun _ hi hb => absurd hb (by omega))
theorem Fr.cell {w w' : World} (h : Fr w w') {b o : Nat} (hb : b < w.heap.size) : w'.cell? ⟨b, o, none⟩ = w.cell? ⟨b, o, none⟩ := Kept.cell h hb (fun h => h)
theorem Kept.of_fr {S : Nat → Prop} {w w' : World} (h : Fr w w') : Kept S w w' := Kept.mono h (fun _ _ h => h.elim)

def inI (n : Int) : Prop := -9223372036854775808 ≤ n ∧ n ≤ 9223372036854775807

structure PlaceV where
 k : Int
 n : Int
 deriving DecidableEq
def PlaceV.cells (p : PlaceV) : List Value := [.int .i64 p.k, .int .i64 p.n]
def PlaceV.val (p : PlaceV) : Value := .agg #[.int .i64 p.k, .int .i64 p.n]
def PlaceV.ok (p : PlaceV) : Prop := inI p.k ∧ inI p.n

structure Mv where
 to : PlaceV
 fr : PlaceV
 c : Bool
 n : Nat
 deriving DecidableEq
def Mv.cells (m : Mv) : List Value := [.int .i64 m.to.k, .int .i64 m.to.n, .int .i64 m.fr.k, .int .i64 m.fr.n, .bool m.c, .int .u32 m.n]
def Mv.ok (m : Mv) : Prop := m.to.ok ∧ m.fr.ok ∧ m.n < 4294967296
theorem Mv.len (m : Mv) : m.cells.length = 6 := rfl

theorem Reads.mv {w : World} {R : Nat → Prop} {A : Option Addr} {n k : Nat} {l : List Mv} {m : Mv} (h : Reads w R 6 A n (l.flatMap Mv.cells)) (hm : l[k]? = some m) :
   ∃ b off, A = some ⟨b, off, none⟩ ∧ R b ∧ w.cell? ⟨b, off + k * 6, none⟩ = some (.int .i64 m.to.k) ∧ w.cell? ⟨b, off + k * 6 + 1, none⟩ = some (.int .i64 m.to.n) ∧ w.cell? ⟨b, off + k * 6 + 2, none⟩ = some (.int .i64 m.fr.k) ∧
     w.cell? ⟨b, off + k * 6 + 3, none⟩ = some (.int .i64 m.fr.n) ∧ w.cell? ⟨b, off + k * 6 + 4, none⟩ = some (.bool m.c) ∧ w.cell? ⟨b, off + k * 6 + 5, none⟩ = some (.int .u32 m.n) := by
 obtain ⟨e, h2⟩ := h.elem Mv.len (by omega)
 have hk : k < l.length := (List.getElem?_eq_some_iff.1 hm).1
 obtain ⟨b, off, hA, hR, hc⟩ := h2 (by omega)
 exact ⟨b, off, hA, hR, hc k m hm 0 _ rfl, hc k m hm 1 _ rfl, hc k m hm 2 _ rfl, hc k m hm 3 _ rfl, hc k m hm 4 _ rfl, hc k m hm 5 _ rfl⟩

structure Rw where
 d : PlaceV
 a : PlaceV
 b : PlaceV
 before : List Mv
 after : List Mv
 deriving DecidableEq

structure RwV where
 r : Rw
 vb : Value
 va : Value
def RwV.cells (x : RwV) : List Value := [.int .i64 x.r.d.k, .int .i64 x.r.d.n, .int .i64 x.r.a.k, .int .i64 x.r.a.n, .int .i64 x.r.b.k, .int .i64 x.r.b.n, x.vb, x.va]
theorem RwV.len (m : RwV) : m.cells.length = 8 := rfl

theorem Reads.rw {w : World} {R : Nat → Prop} {A : Option Addr} {n k : Nat} {l : List RwV} {m : RwV} (h : Reads w R 8 A n (l.flatMap RwV.cells)) (hm : l[k]? = some m) :
   ∃ b off, A = some ⟨b, off, none⟩ ∧ R b ∧ w.cell? ⟨b, off + k * 8, none⟩ = some (.int .i64 m.r.d.k) ∧ w.cell? ⟨b, off + k * 8 + 1, none⟩ = some (.int .i64 m.r.d.n) ∧ w.cell? ⟨b, off + k * 8 + 2, none⟩ = some (.int .i64 m.r.a.k) ∧
     w.cell? ⟨b, off + k * 8 + 3, none⟩ = some (.int .i64 m.r.a.n) ∧ w.cell? ⟨b, off + k * 8 + 4, none⟩ = some (.int .i64 m.r.b.k) ∧ w.cell? ⟨b, off + k * 8 + 5, none⟩ = some (.int .i64 m.r.b.n) ∧
     w.cell? ⟨b, off + k * 8 + 6, none⟩ = some m.vb ∧ w.cell? ⟨b, off + k * 8 + 7, none⟩ = some m.va := by
 obtain ⟨e, h2⟩ := h.elem RwV.len (by omega)
 have hk : k < l.length := (List.getElem?_eq_some_iff.1 hm).1
 obtain ⟨b, off, hA, hR, hc⟩ := h2 (by omega)
 exact ⟨b, off, hA, hR, hc k m hm 0 _ rfl, hc k m hm 1 _ rfl, hc k m hm 2 _ rfl, hc k m hm 3 _ rfl, hc k m hm 4 _ rfl, hc k m hm 5 _ rfl, hc k m hm 6 _ rfl, hc k m hm 7 _ rfl⟩

def RdMv (w : World) (R : Nat → Prop) (v : Value) (l : List Mv) : Prop :=
 ∃ A c, v = .slice A l.length c ∧ l.length ≤ maxLen ∧ Reads w R 6 A l.length (l.flatMap Mv.cells) ∧ ∀ m ∈ l, m.ok
def RwV.ok (w : World) (R : Nat → Prop) (x : RwV) : Prop :=
 x.r.d.ok ∧ x.r.a.ok ∧ x.r.b.ok ∧ RdMv w R x.vb x.r.before ∧ RdMv w R x.va x.r.after
def RdRw (w : World) (R : Nat → Prop) (v : Value) (l : List RwV) : Prop :=
 ∃ A c, v = .slice A l.length c ∧ l.length ≤ maxLen ∧ Reads w R 8 A l.length (l.flatMap RwV.cells) ∧ ∀ x ∈ l, x.ok w R

structure Pd where
 slots : Int
 rows : List Rw
 deriving DecidableEq

def RdPd (w : World) (R : Nat → Prop) (v : Value) (p : Pd) : Prop :=
 ∃ vr l, v = .agg #[.int .i64 p.slots, vr] ∧ inI p.slots ∧ RdRw w R vr l ∧ p.rows = l.map (·.r)

structure In where
 op : Int
 d : Int
 a : Int
 b : Int
 c : Int
 n : Nat
 deriving DecidableEq
def In.cells (i : In) : List Value := [.int .i64 i.op, .int .i64 i.d, .int .i64 i.a, .int .i64 i.b, .int .i64 i.c, .int .u32 i.n]
theorem In.len (m : In) : m.cells.length = 6 := rfl
def In.val (i : In) : Value := .agg #[.int .i64 i.op, .int .i64 i.d, .int .i64 i.a, .int .i64 i.b, .int .i64 i.c, .int .u32 i.n]
def In.ok (i : In) : Prop := inI i.op ∧ inI i.d ∧ inI i.a ∧ inI i.b ∧ inI i.c ∧ i.n < 4294967296

def RdIn (w : World) (R : Nat → Prop) (v : Value) (l : List In) : Prop :=
 ∃ A c, v = .slice A l.length c ∧ l.length ≤ maxLen ∧ Reads w R 6 A l.length (l.flatMap In.cells) ∧ ∀ m ∈ l, m.ok
def RdBo (w : World) (R : Nat → Prop) (v : Value) (l : List Bool) : Prop :=
 ∃ A c, v = .slice A l.length c ∧ l.length ≤ maxLen ∧ Reads w R 1 A l.length (l.map Value.bool)
structure Pg where
 wide : List Bool
 code : List In
 deriving DecidableEq
def RdPg (w : World) (R : Nat → Prop) (v : Value) (p : Pg) : Prop :=
 ∃ vw vc, v = .agg #[vw, vc] ∧ RdBo w R vw p.wide ∧ RdIn w R vc p.code

section
variable {w : World} {R R' : Nat → Prop} {v : Value}
theorem RdMv.more {l : List Mv} (h : RdMv w R v l) (hs : ∀ b, R b → R' b) : RdMv w R' v l :=
 let ⟨A, c, e, hl, hr, ho⟩ := h
 ⟨A, c, e, hl, hr.more hs, ho⟩
theorem RwV.ok.more {x : RwV} (h : x.ok w R) (hs : ∀ b, R b → R' b) : x.ok w R' :=
 ⟨h.1, h.2.1, h.2.2.1, h.2.2.2.1.more hs, h.2.2.2.2.more hs⟩
theorem RdRw.more {l : List RwV} (h : RdRw w R v l) (hs : ∀ b, R b → R' b) : RdRw w R' v l :=
 let ⟨A, c, e, hl, hr, ho⟩ := h
 ⟨A, c, e, hl, hr.more hs, fun x hx => (ho x hx).more hs⟩
theorem RdPd.more {p : Pd} (h : RdPd w R v p) (hs : ∀ b, R b → R' b) : RdPd w R' v p :=
 let ⟨vr, l, e, hi, hr, ho⟩ := h
 ⟨vr, l, e, hi, hr.more hs, ho⟩
end

section
variable {w w' : World} {R S : Nat → Prop} {v : Value}
theorem RdMv.kept {l : List Mv} (h : RdMv w R v l) (hk : Kept S w w') (hs : ∀ b, R b → ¬ S b) : RdMv w' R v l :=
 let ⟨A, c, e, hl, hr, ho⟩ := h
 ⟨A, c, e, hl, hr.kept hk hs, ho⟩
theorem RwV.ok.kept {x : RwV} (h : x.ok w R) (hk : Kept S w w') (hs : ∀ b, R b → ¬ S b) : x.ok w' R :=
 ⟨h.1, h.2.1, h.2.2.1, h.2.2.2.1.kept hk hs, h.2.2.2.2.kept hk hs⟩
theorem RdRw.kept {l : List RwV} (h : RdRw w R v l) (hk : Kept S w w') (hs : ∀ b, R b → ¬ S b) : RdRw w' R v l :=
 let ⟨A, c, e, hl, hr, ho⟩ := h
 ⟨A, c, e, hl, hr.kept hk hs, fun x hx => (ho x hx).kept hk hs⟩
theorem RdPd.kept {p : Pd} (h : RdPd w R v p) (hk : Kept S w w') (hs : ∀ b, R b → ¬ S b) : RdPd w' R v p :=
 let ⟨vr, l, e, hi, hr, ho⟩ := h
 ⟨vr, l, e, hi, hr.kept hk hs, ho⟩
theorem RdIn.kept {l : List In} (h : RdIn w R v l) (hk : Kept S w w') (hs : ∀ b, R b → ¬ S b) : RdIn w' R v l :=
 let ⟨A, c, e, hl, hr, ho⟩ := h
 ⟨A, c, e, hl, hr.kept hk hs, ho⟩
theorem RdBo.kept {l : List Bool} (h : RdBo w R v l) (hk : Kept S w w') (hs : ∀ b, R b → ¬ S b) : RdBo w' R v l :=
 let ⟨A, c, e, hl, hr⟩ := h
 ⟨A, c, e, hl, hr.kept hk hs⟩
theorem RdPg.kept {p : Pg} (h : RdPg w R v p) (hk : Kept S w w') (hs : ∀ b, R b → ¬ S b) : RdPg w' R v p :=
 let ⟨vw, vc, e, h1, h2⟩ := h
 ⟨vw, vc, e, h1.kept hk hs, h2.kept hk hs⟩
end

end Go.Proofs.YtodmkjeankbieaaGreatDoor


namespace Go.Proofs.YtodmkjeankbieaaGreatDoor

def shape (op : Int) : List UInt8 :=
 if op = 1 then [110, 45, 45, 45, 110] else if op = 2 then [120, 120, 45, 45, 45] else if op = 3 then [110, 45, 45, 45, 45] else if op = 4 then [45, 110, 45, 45, 45]
 else if op = 5 then [119, 110, 110, 45, 45] else if op = 6 then [110, 119, 45, 45, 45] else if op = 7 then [110, 119, 45, 45, 45] else if op = 8 then [45, 45, 45, 99, 45]
 else if op = 9 then [45, 110, 45, 99, 45] else if op = 10 then [45, 45, 45, 45, 45] else if 20 < op ∧ op ≤ 26 then [110, 110, 110, 45, 45] else if 40 < op ∧ op ≤ 45 then [119, 119, 119, 45, 45] else []
def known (op : Int) : Bool := decide (1 ≤ op ∧ op ≤ 10 ∨ 21 ≤ op ∧ op ≤ 26 ∨ 41 ≤ op ∧ op ≤ 45)
def gvs (op : Int) : Bool := decide (op ≠ 4 ∧ op ≠ 8 ∧ op ≠ 9 ∧ op ≠ 10)
def many (op : Int) : Nat :=
 if op = 1 ∨ op = 3 ∨ op = 8 ∨ op = 10 then 0 else if op = 2 ∨ op = 4 ∨ op = 6 ∨ op = 7 ∨ op = 9 then 1 else 2
def uses (i : In) : List Int := [i.a, i.b].take (many i.op)
def nexts (i : In) (at_ : Int) : List Int :=
 if i.op = 8 then [i.c] else if i.op = 10 then [] else if i.op = 9 then [at_ + 1, i.c] else [at_ + 1]

theorem known_cases {op : Int} (h : known op = true) : op = 1 ∨ op = 2 ∨ op = 3 ∨ op = 4 ∨ op = 5 ∨ op = 6 ∨ op = 7 ∨ op = 8 ∨ op = 9 ∨ op = 10 ∨ (20 < op ∧ op ≤ 26) ∨ (40 < op ∧ op ≤ 45) := by
 unfold known at h
 have := of_decide_eq_true h
 omega

def wd (wide : List Bool) (n : Int) : Bool := wide.getD n.toNat false
def tempB (wide : List Bool) (n : Int) (l : UInt8) : Bool :=
 if l = 45 then decide (n = 0) else decide (0 ≤ n ∧ n < wide.length) && (decide (l = 120) || (wd wide n == decide (l = 119)))

def insB (p : Pg) (i : In) : Bool :=
 known i.op && (tempB p.wide i.d ((shape i.op).getD 0 0) && tempB p.wide i.a ((shape i.op).getD 1 0) && tempB p.wide i.b ((shape i.op).getD 2 0)) &&
   !(decide (i.op = 2) && (wd p.wide i.d != wd p.wide i.a)) &&
   ((if (shape i.op).getD 3 0 = 99 then decide (0 ≤ i.c ∧ i.c < p.code.length) else decide (i.c = 0)) && (decide ((shape i.op).getD 4 0 = 110) || decide (i.n = 0)))

def mayB (p : Pg) : Bool :=
 p.code.all (insB p) && decide (1 ≤ p.wide.length) && decide (p.wide.length ≤ 12) && decide (1 ≤ p.code.length) && decide (p.code.length ≤ 40)

def inB (n : Int) (l : Nat) : Bool := decide (0 ≤ n ∧ n < l)
def kinds (p : Pg) (i : In) : List Bool := (if gvs i.op then [wd p.wide i.d] else []) ++ (uses i).map (wd p.wide)
def widthsR (p : Pg) (i : In) : Bool :=
 if i.op = 2 then (kinds p i).getD 0 false == (kinds p i).getD 1 false
 else if i.op = 5 then (kinds p i).getD 0 false && !(kinds p i).getD 1 false && !(kinds p i).getD 2 false
 else if i.op = 6 ∨ i.op = 7 then !(kinds p i).getD 0 false && (kinds p i).getD 1 false
 else (kinds p i).all fun x => x == decide (40 < i.op)
def fieldR (wide : List Bool) (there : Bool) (n : Int) : Bool := if there then inB n wide.length else decide (n = 0)
def insR (p : Pg) (i : In) : Bool :=
 known i.op && (decide (i.op = 1) || decide (i.n = 0)) &&
   (fieldR p.wide (gvs i.op) i.d && fieldR p.wide (decide (0 < many i.op)) i.a && fieldR p.wide (decide (1 < many i.op)) i.b) &&
   (if i.op = 8 ∨ i.op = 9 then inB i.c p.code.length else decide (i.c = 0)) && widthsR p i
theorem insR_known {p : Pg} {i : In} (h : insR p i = true) : known i.op = true := by
 unfold insR at h
 simp only [Bool.and_eq_true] at h
 exact h.1.1.1.1

theorem shape_op {op : Int} (h1 : 20 < op) (h2 : op ≤ 26) : shape op = [110, 110, 110, 45, 45] := by
 unfold shape
 iterate 10 rw [if_neg (by omega)]
 rw [if_pos ⟨h1, h2⟩]
theorem shape_wide {op : Int} (h1 : 40 < op) (h2 : op ≤ 45) : shape op = [119, 119, 119, 45, 45] := by
 unfold shape
 iterate 11 rw [if_neg (by omega)]
 rw [if_pos ⟨h1, h2⟩]
theorem gvs_op {op : Int} (h1 : 20 < op) : gvs op = true := by unfold gvs; exact decide_eq_true (by omega)
theorem many_op {op : Int} (h1 : 20 < op) : many op = 2 := by
 unfold many
 rw [if_neg (by omega), if_neg (by omega)]

set_option maxHeartbeats 1000000 in
theorem insB_eq (p : Pg) (i : In) : insB p i = insR p i := by
 obtain ⟨op, d, a, b, c, n⟩ := i
 cases hk : known op with
 | false => simp [insB, insR, hk]
 | true =>
   have h := known_cases hk
   unfold insB insR
   simp only [hk, Bool.true_and]
   rcases h with rfl | rfl | rfl | rfl | rfl | rfl | rfl | rfl | rfl | rfl | ⟨h1, h2⟩ | ⟨h1, h2⟩
   case inr.inl =>
     simp [shape, gvs, many, widthsR, kinds, uses, tempB, fieldR, inB, Bool.and_assoc]
     cases wd p.wide d <;> cases wd p.wide a <;> simp <;> ac_rfl
   case inr.inr.inr.inr.inr.inr.inr.inr.inr.inr.inl =>
     have e1 : ¬ op = 1 := by omega
     have e2 : ¬ op = 2 := by omega
     have e3 : ¬ op = 5 := by omega
     have e4 : ¬ (op = 6 ∨ op = 7) := by omega
     have e5 : ¬ (op = 8 ∨ op = 9) := by omega
     have e6 : ¬ (40 < op) := by omega
     rw [shape_op h1 h2]
     simp only [widthsR, kinds, uses, gvs_op h1, many_op h1, e1, e2, e3, e4, e5, e6]
     simp [tempB, fieldR, inB, Bool.and_assoc]
     ac_rfl
   case inr.inr.inr.inr.inr.inr.inr.inr.inr.inr.inr =>
     have e1 : ¬ op = 1 := by omega
     have e2 : ¬ op = 2 := by omega
     have e3 : ¬ op = 5 := by omega
     have e4 : ¬ (op = 6 ∨ op = 7) := by omega
     have e5 : ¬ (op = 8 ∨ op = 9) := by omega
     have h3 : 20 < op := by omega
     rw [shape_wide h1 h2]
     simp only [widthsR, kinds, uses, gvs_op h3, many_op h3, e1, e2, e3, e4, e5, h1]
     simp [tempB, fieldR, inB, Bool.and_assoc]
     ac_rfl
   all_goals
     simp [shape, gvs, many, widthsR, kinds, uses, tempB, fieldR, inB, Bool.and_assoc]
     try ac_rfl

end Go.Proofs.YtodmkjeankbieaaGreatDoor


namespace Go.Proofs.YtodmkjeankbieaaGreatDoor
open Go.RowKit Go.Sort

structure SlTy (P : Program) (t e : TypeId) (size bytes : Nat) : Prop where
 ht : P.underlying t = some (.slice e)
 ex : ∃ i z, P.info? e = some i ∧ i.zero = some z ∧ i.size = size ∧ i.bytes = bytes ∧ z.cells.size = size
 pos : 0 < size

theorem SlTy.mk' {P : Program} {t e : TypeId} {size bytes : Nat} {z : Value} (ht : P.underlying t = some (.slice e)) (h : (P.info? e).map (fun i => (i.zero, i.size, i.bytes)) = some (some z, size, bytes)) (hz : z.cells.size = size) (hp : 0 < size) :
   SlTy P t e size bytes := by
 refine ⟨ht, ?_, hp⟩
 cases hi : P.info? e with
 | none => rw [hi] at h; simp at h
 | some i =>
   rw [hi] at h
   simp only [Option.map_some, Option.some.injEq, Prod.mk.injEq] at h
   exact ⟨i, z, rfl, h.1, h.2.1, h.2.2, hz⟩

theorem ret_b {a b : Bool} (h : a = b) : Ending.returned (.bool a) = .returned (.bool b) := by rw [h]
theorem ret_i {k : IntKind} {a b : Int} (h : a = b) : Ending.returned (.int k a) = .returned (.int k b) := by rw [h]
theorem add_none (b off j : Nat) : (⟨b, off, none⟩ : Addr).add j = ⟨b, off + j, none⟩ := by
 unfold Addr.add
 by_cases h : j = 0 <;> simp [h]

theorem Reads.lit (w : World) (R : Nat → Prop) (e : TypeId) (size n : Nat) (cs : Array Value) (hR : R w.heap.size) (hl : cs.size = n * size) :
   Reads (w.alloc (.cells cs e)) R size (some ⟨w.heap.size, 0, none⟩) n cs.toList := by
 refine ⟨by simpa using hl, fun _ => ⟨_, _, rfl, hR, fun j u hu => ?_⟩⟩
 rw [Nat.zero_add, (Blk.new w e cs).cell]
 simpa using hu

theorem Reads.lit' {w : World} {R : Nat → Prop} {e : TypeId} {size n g : Nat} {cs : Array Value} (hg : g = w.heap.size) (hR : R g) (hl : cs.size = n * size) :
   Reads (w.alloc (.cells cs e)) R size (some ⟨g, 0, none⟩) n cs.toList := by
 subst hg
 exact Reads.lit w R e size n cs hR hl

section
variable {P : Program} (w : World)

theorem run_app {base : Nat} {t ty e : TypeId} {size bytes : Nat} (hT : SlTy P t e size bytes)
   (v : Value) (n : Nat) (xs : List Value) (hown : w.ownsRow base e size v n xs)
   (R : Nat → Prop) (A : Option Addr) (m c : Nat) (news : List Value) (hr : Reads w R size A m news) (h1 : ∀ u ∈ news, u.oneCell' = true)
   (hbytes : (n + m) * bytes ≤ 140737488355328) (h63 : n + m ≤ maxLen) (hbase : base ≤ w.heap.size) :
   ∃ v' w', (Builtin.append_ #[t, t] ty #[v, .slice A m c]).run P w = .ok v' w' ∧ w'.ownsRow base e size v' (n + m) (xs ++ news) ∧ w.grownBy w' v.ownBlock ∧
     (v'.ownBlock = v.ownBlock ∨ v'.ownBlock = some w.heap.size) := by
 obtain ⟨i, z, hi, hz, hsize, hby, hzs⟩ := hT.ex
 rcases Nat.eq_zero_or_pos m with h0 | h0
 · subst h0
   have hn : news = [] := List.eq_nil_of_length_eq_zero (by simpa using hr.1)
   subst hn
   rcases A with _ | ad
   · refine ⟨v, w, ?_, by simpa using hown, World.grownBy.refl w _, .inl rfl⟩
     rcases hown.2 with ⟨rfl, rfl⟩ | ⟨g, cap, cur, rfl, _, _, hnc, _⟩
     · simp [Builtin.append_, run_underlying hT.ht, sizeOf, typeInfo, hi, Builtin.lenOf, Builtin.firstCells]
     · simp [Builtin.append_, run_underlying hT.ht, sizeOf, typeInfo, hi, Builtin.lenOf, Builtin.firstCells, hnc, storeCells]
   · obtain ⟨v', w', hrun, h2, h3, _, h5⟩ := run_append_own_at (P := P) w base t ty e i z size bytes hT.ht hi hz hsize hby hzs hT.pos v n xs hown ad 0 c [] (by simp) (by simp) (by simp) h63 hbytes hbase
     exact ⟨v', w', hrun, h2, h3, h5⟩
 · obtain ⟨b, off, rfl, _, hc⟩ := hr.2 h0
   obtain ⟨v', w', hrun, h2, h3, _, h5⟩ := run_append_own_at (P := P) w base t ty e i z size bytes hT.ht hi hz hsize hby hzs hT.pos v n xs hown ⟨b, off, none⟩ m c news hr.1
     (fun j u hu => by rw [add_none]; exact hc j u hu) h1 h63 hbytes hbase
   exact ⟨v', w', hrun, h2, h3, h5⟩

theorem wp_app {o : Oper} {a : Act} {K : Act → World → Prop} {Q : Exit → Act → World → Prop} {base : Nat} {t e : TypeId} {size bytes : Nat} (hT : SlTy P t e size bytes) (s x : Operand)
   (ho : o.op = .call { callee := .builtin .append, args := #[s, x], argTypes := #[t, t] })
   (v : Value) (n : Nat) (xs : List Value) (hs : a.eval s = v) (hown : w.ownsRow base e size v n xs)
   (R : Nat → Prop) (A : Option Addr) (m c : Nat) (news : List Value) (hx : a.eval x = .slice A m c) (hr : Reads w R size A m news) (h1 : ∀ u ∈ news, u.oneCell' = true)
   (hbytes : (n + m) * bytes ≤ 140737488355328) (h63 : n + m ≤ maxLen) (hbase : base ≤ w.heap.size)
   (h : ∀ v' w', w'.ownsRow base e size v' (n + m) (xs ++ news) → Kept (fun k => v.ownBlock = some k) w w' → (v'.ownBlock = v.ownBlock ∨ v'.ownBlock = some w.heap.size) → K (a.put o.dst v') w') : o.wp P a w K Q := by
 obtain ⟨v', w', hrun, h2, h3, h4⟩ := run_app (P := P) (ty := o.type) w hT v n xs hown R A m c news hr h1 hbytes h63 hbase
 unfold Oper.wp execOp
 simp only [ho, resolve, invoke, builtin, Sem.run_bind, Sem.run_pure, Result.andThen_ok, List.map_toArray, List.map_cons, List.map_nil, hs, hx, hrun]
 exact h v' w' h2 ((Kept.refl _ _).grown h3 (fun _ _ e => e)) h4

theorem wpList_app {ops : Array Oper} {rest : List Oper} {o : Oper} {a : Act} {Q : Exit → Act → World → Prop} (hgd : o.guard = none) {base : Nat} {t e : TypeId} {size bytes : Nat} (hT : SlTy P t e size bytes) (s x : Operand)
   (ho : o.op = .call { callee := .builtin .append, args := #[s, x], argTypes := #[t, t] })
   (v : Value) (n : Nat) (xs : List Value) (hs : a.eval s = v) (hown : w.ownsRow base e size v n xs)
   (R : Nat → Prop) (A : Option Addr) (m c : Nat) (news : List Value) (hx : a.eval x = .slice A m c) (hr : Reads w R size A m news) (h1 : ∀ u ∈ news, u.oneCell' = true)
   (hbytes : (n + m) * bytes ≤ 140737488355328) (h63 : n + m ≤ maxLen) (hbase : base ≤ w.heap.size)
   (h : ∀ v' w', w'.ownsRow base e size v' (n + m) (xs ++ news) → Kept (fun k => v.ownBlock = some k) w w' → (v'.ownBlock = v.ownBlock ∨ v'.ownBlock = some w.heap.size) → wpList P ops Q rest (a.put o.dst v') w') : wpList P ops Q (o :: rest) a w :=
 wpList_plain hgd fun _ hK => wp_app w hT s x ho v n xs hs hown R A m c news hx hr h1 hbytes h63 hbase fun v' w' h2 h3 h4 => hK _ _ (h v' w' h2 h3 h4)
end

theorem Kept.app {S : Nat → Prop} {a w w' : World} {e : TypeId} {size n : Nat} {v : Value} {xs : List Value} (h : Kept S a w) (hown : w.ownsRow a.heap.size e size v n xs) (hk : Kept (fun k => v.ownBlock = some k) w w') : Kept S a w' :=
 h.then hk fun i hi hs => by have := (own_lt hown hs).1; omega

theorem own_reads {w : World} {base : Nat} {e : TypeId} {size n : Nat} {v : Value} {xs : List Value} (h : w.ownsRow base e size v n xs) :
   ∃ A c, v = .slice A n c ∧ n ≤ maxLen ∧ Reads w (fun b => base ≤ b ∧ v.ownBlock = some b) size A n xs := by
 obtain ⟨hl, h2⟩ := h
 rcases h2 with ⟨rfl, rfl⟩ | ⟨g, cap, cur, rfl, hb, hh, hn, hc, hs, ht⟩
 · exact ⟨none, 0, rfl, by simp, hl, fun h => absurd h (by omega)⟩
 · refine ⟨_, _, rfl, by omega, hl, fun _ => ⟨g, 0, rfl, ⟨hb, rfl⟩, fun j u hu => ?_⟩⟩
   have hj : j < xs.length := (List.getElem?_eq_some_iff.1 hu).1
   rw [Nat.zero_add, show w.cell? ⟨g, j, none⟩ = cur[j]? from cell_of_row w g j cur e (0, 0) hh]
   rw [← ht, List.getElem?_take] at hu
   split at hu
   · simpa using hu
   · cases hu

theorem kept_of_regrown {S : Nat → Prop} {w : World} (d : Nat) (os : Array Obj) : Kept S w (grow (redrawn w d) os) :=
 Kept.of_below (below_regrown w d os) (fun i hi hb => absurd hb (by omega))

end Go.Proofs.YtodmkjeankbieaaGreatDoor


namespace Go.Proofs.YtodmkjeankbieaaGreatDoor

theorem shape_there {op : Int} (h : known op = true) : (decide ((shape op).getD 0 0 = 45) = !gvs op) ∧ (decide ((shape op).getD 1 0 = 45) = !decide (0 < many op)) ∧ (decide ((shape op).getD 2 0 = 45) = !decide (1 < many op)) := by
 rcases known_cases h with rfl | rfl | rfl | rfl | rfl | rfl | rfl | rfl | rfl | rfl | ⟨h1, h2⟩ | ⟨h1, h2⟩
 case inr.inr.inr.inr.inr.inr.inr.inr.inr.inr.inl => rw [shape_op h1 h2, gvs_op h1, many_op h1]; simp
 case inr.inr.inr.inr.inr.inr.inr.inr.inr.inr.inr => rw [shape_wide h1 h2, gvs_op (by omega), many_op (by omega)]; simp
 all_goals simp [shape, gvs, many]

def ovP (a b : PlaceV) : Bool :=
 if a.k = 2 ∧ b.k = 1 then b.n / 2 == a.n else if a.k = 1 ∧ b.k = 2 then a.n / 2 == b.n else decide (a.k = b.k ∧ a.n = b.n)
theorem ovP_comm (a b : PlaceV) : ovP a b = ovP b a := by
 unfold ovP
 by_cases h1 : a.k = 2 ∧ b.k = 1
 · rw [if_pos h1, if_neg (by omega), if_pos (by omega)]
 · rw [if_neg h1]
   by_cases h2 : a.k = 1 ∧ b.k = 2
   · rw [if_pos h2, if_pos (by omega)]
   · rw [if_neg h2, if_neg (by omega), if_neg (by omega), decide_eq_decide]; omega
def tgB (sg : Int) : Bool := decide (4 ≤ sg) && decide (sg ≤ 16) && decide (sg % 2 = 0)
def isB (sg sl : Int) (a : PlaceV) : Bool := decide (0 ≤ a.n ∧ a.n < if a.k = 1 then sg else if a.k = 2 then sg / 2 else if a.k = 3 then sl else 0)
def mvB (sg sl : Int) (m : Mv) : Bool :=
 isB sg sl m.to && if m.c then decide (m.fr = ⟨0, 0⟩) && decide (m.to.k = 1) else decide (m.n = 0) && isB sg sl m.fr && (decide (m.to.k = m.fr.k) != (decide (m.to.k = 3) || decide (m.fr.k = 3)))
def mvsB (sg sl : Int) (l : List Mv) : Bool := l.all (mvB sg sl) && decide (l.length ≤ 6)
def kindV (wide : List Bool) (l : UInt8) (t : Int) : Int := if l = 45 then 0 else if wd wide t then 2 else 1
def plB (wide : List Bool) (sg sl : Int) (l : UInt8) (t : Int) (a : PlaceV) : Bool :=
 decide (a.k = kindV wide l t) && !(decide (kindV wide l t = 0) && decide (a.n ≠ 0)) && !(decide (kindV wide l t ≠ 0) && !isB sg sl a)
def rwB (p : Pg) (sg sl : Int) (i : In) (r : Rw) : Bool :=
 (plB p.wide sg sl ((shape i.op).getD 0 0) i.d r.d && plB p.wide sg sl ((shape i.op).getD 1 0) i.a r.a && plB p.wide sg sl ((shape i.op).getD 2 0) i.b r.b) &&
   (mvsB sg sl r.before && mvsB sg sl r.after && (!decide (8 ≤ i.op ∧ i.op ≤ 10) || decide (r.after.length = 0)))
def mayL (p : Pg) (sg : Int) (l : Pd) : Bool :=
 mayB p && tgB sg && decide (0 ≤ l.slots) && decide (l.slots ≤ 12) && decide (l.rows.length = p.code.length) && (p.code.zip l.rows).all fun x => rwB p sg l.slots x.1 x.2

theorem tg_facts {sg : Int} (h : tgB sg = true) : 4 ≤ sg ∧ sg ≤ 16 ∧ sg % 2 = 0 := by
 unfold tgB at h; simpa [and_assoc] using h
end Go.Proofs.YtodmkjeankbieaaGreatDoor


namespace Go.Proofs.YtodmkjeankbieaaGreatDoor

def bw (an : Bool) (a b : Nat) : Nat := if an then a &&& b else a ^^^ b

theorem bw_lt (an : Bool) (a b j : Nat) (ha : a < 2 ^ j) (hb : b < 2 ^ j) : bw an a b < 2 ^ j := by
 unfold bw; split
 · exact Nat.and_lt_two_pow _ hb
 · exact Nat.xor_lt_two_pow ha hb

def opM (M : Int) (op a b : Int) : Int :=
 if op = 1 then (a + b) % M
 else if op = 2 then (a - b) % M
 else if op = 3 then a * b % M
 else if op = 4 then ((bw true a.toNat b.toNat : Nat) : Int)
 else if op = 5 then ((bw false a.toNat b.toNat : Nat) : Int)
 else if op = 6 then (if a < b then 1 else 0)
 else 0

def wideOp (op a b : Int) : Int := opM 18446744073709551616 op a b
def narrowOp (op a b : Int) : Int := opM 4294967296 op a b

theorem bw_lt_int (an : Bool) (j : Nat) (M : Int) (hM : M = ((2 ^ j : Nat) : Int)) (a b : Int) (ha : a < M) (hb : b < M) : ((bw an a.toNat b.toNat : Nat) : Int) < M := by
 subst hM
 have hp := Nat.two_pow_pos j
 have := bw_lt an a.toNat b.toNat j (by omega) (by omega)
 omega

theorem opM_range (j : Nat) (M : Int) (hM : M = ((2 ^ j : Nat) : Int)) (hj : 2 ≤ M) (op a b : Int) (ha : a < M) (hb : b < M) : 0 ≤ opM M op a b ∧ opM M op a b < M := by
 have h1 := bw_lt_int true j M hM a b ha hb
 have h2 := bw_lt_int false j M hM a b ha hb
 have h0 : M ≠ 0 := by omega
 have e1 := Int.emod_nonneg (a + b) h0
 have e2 := Int.emod_nonneg (a - b) h0
 have e3 := Int.emod_nonneg (a * b) h0
 have f1 := Int.emod_lt_of_pos (a + b) (show 0 < M by omega)
 have f2 := Int.emod_lt_of_pos (a - b) (show 0 < M by omega)
 have f3 := Int.emod_lt_of_pos (a * b) (show 0 < M by omega)
 unfold opM
 split; · exact ⟨e1, f1⟩
 split; · exact ⟨e2, f2⟩
 split; · exact ⟨e3, f3⟩
 split; · exact ⟨Int.natCast_nonneg _, h1⟩
 split; · exact ⟨Int.natCast_nonneg _, h2⟩
 split
 · split <;> omega
 · omega

theorem wideOp_range (op a b : Int) (ha : a < 18446744073709551616) (hb : b < 18446744073709551616) : 0 ≤ wideOp op a b ∧ wideOp op a b ≤ 18446744073709551615 := by
 have := opM_range 64 18446744073709551616 (by decide) (by decide) op a b ha hb
 unfold wideOp; omega

theorem narrowOp_range (op a b : Int) (ha : a < 4294967296) (hb : b < 4294967296) : 0 ≤ narrowOp op a b ∧ narrowOp op a b ≤ 4294967295 := by
 have := opM_range 32 4294967296 (by decide) (by decide) op a b ha hb
 unfold narrowOp; omega

theorem opM_1 {M op a b : Int} (h : (op == 1) = true) : opM M op a b = (a + b) % M := by
 obtain rfl : op = 1 := by simpa using h
 rfl
theorem opM_2 {M op a b : Int} (h : (op == 2) = true) : opM M op a b = (a - b) % M := by
 obtain rfl : op = 2 := by simpa using h
 rfl
theorem opM_3 {M op a b : Int} (h : (op == 3) = true) : opM M op a b = a * b % M := by
 obtain rfl : op = 3 := by simpa using h
 rfl
theorem opM_4 {M op a b : Int} (h : (op == 4) = true) : opM M op a b = ((bw true a.toNat b.toNat : Nat) : Int) := by
 obtain rfl : op = 4 := by simpa using h
 rfl
theorem opM_5 {M op a b : Int} (h : (op == 5) = true) : opM M op a b = ((bw false a.toNat b.toNat : Nat) : Int) := by
 obtain rfl : op = 5 := by simpa using h
 rfl
theorem opM_6 {M op a b : Int} (h : (op == 6) = true) : opM M op a b = if a < b then 1 else 0 := by
 obtain rfl : op = 6 := by simpa using h
 rfl
theorem opM_0 {M op a b : Int} (h1 : (op == 1) = false) (h2 : (op == 2) = false) (h3 : (op == 3) = false) (h4 : (op == 4) = false) (h5 : (op == 5) = false) (h6 : (op == 6) = false) :
   opM M op a b = 0 := by
 have e1 : op ≠ 1 := by simpa using h1
 have e2 : op ≠ 2 := by simpa using h2
 have e3 : op ≠ 3 := by simpa using h3
 have e4 : op ≠ 4 := by simpa using h4
 have e5 : op ≠ 5 := by simpa using h5
 have e6 : op ≠ 6 := by simpa using h6
 unfold opM
 rw [if_neg e1, if_neg e2, if_neg e3, if_neg e4, if_neg e5, if_neg e6]

theorem bits_u (k : IntKind) (j : Nat) (M : Int) (hj : j ≤ k.bits) (hM : M = ((2 ^ j : Nat) : Int)) (hk : ∀ n : Int, 0 ≤ n → n < 2 ^ j → k.wrap n = n) (a b : Int)
   (h0 : 0 ≤ a) (h1 : a < M) (g0 : 0 ≤ b) (g1 : b < M) :
   bits .and k a b = ((bw true a.toNat b.toNat : Nat) : Int) ∧ bits .xor k a b = ((bw false a.toNat b.toNat : Nat) : Int) := by
 obtain ⟨x, rfl⟩ := Int.eq_ofNat_of_zero_le h0
 obtain ⟨y, rfl⟩ := Int.eq_ofNat_of_zero_le g0
 have hp := Nat.two_pow_pos j
 have hx : x < 2 ^ j := by subst hM; omega
 have hy : y < 2 ^ j := by subst hM; omega
 have hq : 2 ^ j ≤ 2 ^ k.bits := Nat.pow_le_pow_right (by decide) hj
 have hx' : x % 2 ^ k.bits = x := Nat.mod_eq_of_lt (Nat.lt_of_lt_of_le hx hq)
 have hy' : y % 2 ^ k.bits = y := Nat.mod_eq_of_lt (Nat.lt_of_lt_of_le hy hq)
 have cast : ∀ n : Nat, n < 2 ^ j → ((n : Nat) : Int) < 2 ^ j := fun n h => by exact_mod_cast h
 refine ⟨?_, ?_⟩
 · rw [(bits_nat k j hj hk x y hx hy).1]; rfl
 · simp only [bits, BitVec.ofInt_natCast, BitVec.toNat_xor, BitVec.toNat_ofNat, hx', hy']
   exact hk _ (Int.natCast_nonneg _) (cast _ (Nat.xor_lt_two_pow hx hy))

theorem bits_u64 (a b : Int) (h0 : 0 ≤ a) (h1 : a ≤ 18446744073709551615) (g0 : 0 ≤ b) (g1 : b ≤ 18446744073709551615) :
   bits .and .u64 a b = ((bw true a.toNat b.toNat : Nat) : Int) ∧ bits .xor .u64 a b = ((bw false a.toNat b.toNat : Nat) : Int) :=
 bits_u .u64 64 18446744073709551616 (by decide) (by decide) (fun n h h' => by rw [IntKind.wrap_u64]; exact Int.emod_eq_of_lt h (by simpa using h')) a b h0 (by omega) g0 (by omega)
theorem bits_u32 (a b : Int) (h0 : 0 ≤ a) (h1 : a ≤ 4294967295) (g0 : 0 ≤ b) (g1 : b ≤ 4294967295) :
   bits .and .u32 a b = ((bw true a.toNat b.toNat : Nat) : Int) ∧ bits .xor .u32 a b = ((bw false a.toNat b.toNat : Nat) : Int) :=
 bits_u .u32 32 4294967296 (by decide) (by decide) (fun n h h' => by rw [IntKind.wrap_u32]; exact Int.emod_eq_of_lt h (by simpa using h')) a b h0 (by omega) g0 (by omega)

end Go.Proofs.YtodmkjeankbieaaGreatDoor


namespace Go.Proofs.YtodmkjeankbieaaGreatDoor

structure Sh where
 pc : Nat
 ins : List Int
 out : List Int
 steps : Nat
 state : Nat

def inAt (code : List In) (k : Nat) : In := code.getD k ⟨0, 0, 0, 0, 0, 0⟩

def giveV (i : In) (a b x : Int) : Int :=
 if i.op = 1 then i.n else if i.op = 2 then a else if i.op = 3 then x else if i.op = 5 then b * 4294967296 + a else if i.op = 6 then a % 4294967296
 else if i.op = 7 then a / 4294967296 else if 40 < i.op then wideOp (i.op - 40) a b else narrowOp (i.op - 20) (a % 4294967296) (b % 4294967296)
def pcV (i : In) (pc : Nat) (a : Int) : Nat := if i.op = 8 ∨ i.op = 9 ∧ a ≠ 0 then i.c.toNat else pc + 1
def stV (len : Nat) (i : In) (pc : Nat) (a : Int) : Nat := if i.op = 10 then 1 else if len ≤ pcV i pc a then 2 else 0

def shStep (code : List In) (s : Sh) (a : Int) : Sh :=
 let i := inAt code s.pc
 ⟨pcV i s.pc a, if i.op = 3 then s.ins.tail else s.ins, if i.op = 4 then s.out ++ [a % 4294967296] else s.out, s.steps + 1, stV code.length i s.pc a⟩

structure Mach (σ : Type) where
 pre : Nat → σ → σ
 ga : Nat → σ → Int
 gb : Nat → σ → Int
 post : Nat → Int → σ → σ

def mStep {σ : Type} (code : List In) (M : Mach σ) (x : Sh × σ) : Sh × σ :=
 let s1 := M.pre x.1.pc x.2
 let a := M.ga x.1.pc s1
 let b := M.gb x.1.pc s1
 (shStep code x.1 a, M.post x.1.pc (giveV (inAt code x.1.pc) a b (x.1.ins.headD 0)) s1)

def mRun {σ : Type} (code : List In) (M : Mach σ) : Nat → Sh × σ → Sh × σ
 | 0, x => x
 | n + 1, x => if x.1.state = 0 then mRun code M n (mStep code M x) else x

def sh0 (ins : List Int) : Sh := ⟨0, ins, [], 0, 0⟩

section
variable {σ : Type} {code : List In} {M : Mach σ}
theorem mRun_stop (n : Nat) {x : Sh × σ} (h : x.1.state ≠ 0) : mRun code M n x = x := by
 cases n with
 | zero => rfl
 | succ n => rw [mRun, if_neg h]
theorem mRun_succ (n : Nat) (x : Sh × σ) : mRun code M (n + 1) x = if (mRun code M n x).1.state = 0 then mStep code M (mRun code M n x) else mRun code M n x := by
 induction n generalizing x with
 | zero => rfl
 | succ n ih =>
   have e1 : ∀ m, mRun code M (m + 1) x = if x.1.state = 0 then mRun code M m (mStep code M x) else x := fun _ => rfl
   rw [e1, e1]
   by_cases h : x.1.state = 0
   · rw [if_pos h, if_pos h]
     exact ih _
   · rw [if_neg h, if_neg h, if_neg h]
theorem mRun_add (n d : Nat) (x : Sh × σ) : mRun code M (n + d) x = mRun code M d (mRun code M n x) := by
 induction n generalizing x with
 | zero => rw [Nat.zero_add]; rfl
 | succ n ih =>
   rw [show n + 1 + d = (n + d) + 1 by omega, mRun, mRun]
   by_cases h : x.1.state = 0
   · rw [if_pos h, if_pos h]; exact ih _
   · rw [if_neg h, if_neg h, mRun_stop d h]
theorem mStep_outlen (x : Sh × σ) : (mStep code M x).1.out.length ≤ x.1.out.length + 1 := by
 unfold mStep shStep
 simp only
 split <;> simp
theorem mRun_outlen (n : Nat) (x : Sh × σ) : (mRun code M n x).1.out.length ≤ x.1.out.length + n := by
 induction n generalizing x with
 | zero => exact Nat.le_refl _
 | succ n ih =>
   rw [mRun]
   split
   · have := ih (mStep code M x)
     have := mStep_outlen (code := code) (M := M) x
     omega
   · omega
end

def upd (s : Int → Int) (d v : Int) : Int → Int := fun k => if k = d then v else s k
def mTemps (p : Pg) : Mach (Int → Int) where
 pre _ s := s
 ga k s := s (inAt p.code k).a
 gb k s := s (inAt p.code k).b
 post k v s := if gvs (inAt p.code k).op then upd s (inAt p.code k).d v else s

def runV (p : Pg) (ins : List Int) (n : Nat) : Sh := (mRun p.code (mTemps p) n (sh0 ins, fun _ => 0)).1

structure Sto where
 sg : Int → Int
 sl : Int → Int
def getS (s : Sto) (a : PlaceV) : Int :=
 if a.k = 1 then s.sg a.n else if a.k = 2 then s.sg (2 * a.n + 1) * 4294967296 + s.sg (2 * a.n) else if a.k = 3 then s.sl a.n else 0
def putS (s : Sto) (a : PlaceV) (v : Int) : Sto :=
 if a.k = 1 then { s with sg := upd s.sg a.n (v % 4294967296) } else if a.k = 2 then { s with sg := upd (upd s.sg (2 * a.n) (v % 4294967296)) (2 * a.n + 1) (v / 4294967296) }
 else if a.k = 3 then { s with sl := upd s.sl a.n v } else s
def moveS (s : Sto) (m : Mv) : Sto := putS s m.to (if m.c then m.n else getS s m.fr)
def movesS (s : Sto) (l : List Mv) : Sto := l.foldl moveS s
def rwAt (rows : List Rw) (k : Nat) : Rw := rows.getD k ⟨⟨0, 0⟩, ⟨0, 0⟩, ⟨0, 0⟩, [], []⟩
def mPlaces (p : Pg) (rows : List Rw) : Mach Sto where
 pre k s := movesS s (rwAt rows k).before
 ga k s := getS s (rwAt rows k).a
 gb k s := getS s (rwAt rows k).b
 post k v s := movesS (if gvs (inAt p.code k).op then putS s (rwAt rows k).d v else s) (rwAt rows k).after
def doneV (p : Pg) (rows : List Rw) (ins : List Int) (n : Nat) : Sh := (mRun p.code (mPlaces p rows) n (sh0 ins, ⟨fun _ => 0, fun _ => 0⟩)).1

end Go.Proofs.YtodmkjeankbieaaGreatDoor


namespace Go.Proofs.YtodmkjeankbieaaGreatDoor

def takesB (i : In) (t : Nat) : Bool := (uses i).contains (t : Int)
def givesB (i : In) (t : Nat) : Bool := gvs i.op && decide (i.d = (t : Int))
def nx (code : List In) (k : Nat) : List Nat := ((nexts (inAt code k) k).map Int.toNat).filter (fun m => decide (m < code.length))

def needN (code : List In) (t : Nat) : Nat → Nat → Bool
 | 0, _ => false
 | n + 1, k => takesB (inAt code k) t || (!givesB (inAt code k) t && (nx code k).any (needN code t n))
def Need (code : List In) (t k : Nat) : Prop := ∃ n, needN code t n k = true
open Classical in
noncomputable def needB (code : List In) (k t : Nat) : Bool := decide (Need code t k)

theorem need_iff (code : List In) (t k : Nat) : Need code t k ↔ takesB (inAt code k) t = true ∨ (givesB (inAt code k) t = false ∧ ∃ m ∈ nx code k, Need code t m) := by
 constructor
 · rintro ⟨n, h⟩
   cases n with
   | zero => simp [needN] at h
   | succ n =>
     rw [needN] at h
     simp only [Bool.or_eq_true, Bool.and_eq_true, List.any_eq_true, Bool.not_eq_true'] at h
     rcases h with h | ⟨h1, m, hm, h2⟩
     · exact Or.inl h
     · exact Or.inr ⟨h1, m, hm, n, h2⟩
 · rintro (h | ⟨h1, m, hm, n, h2⟩)
   · exact ⟨1, by simp [needN, h]⟩
   · refine ⟨n + 1, ?_⟩
     rw [needN]
     simp only [Bool.or_eq_true, Bool.and_eq_true, List.any_eq_true, Bool.not_eq_true']
     exact Or.inr ⟨h1, m, hm, h2⟩

def behindM (code : List In) (M : Nat → Nat → Bool) (k t : Nat) : Bool := (nx code k).any fun m => M m t
def stepM (code : List In) (M : Nat → Nat → Bool) (k t : Nat) : Bool := takesB (inAt code k) t || (!givesB (inAt code k) t && behindM code M k t)

theorem needB_iff {code : List In} {k t : Nat} : needB code k t = true ↔ Need code t k := by unfold needB; simp
theorem needB_step (code : List In) (k t : Nat) : needB code k t = stepM code (needB code) k t := by
 rw [Bool.eq_iff_iff, needB_iff, need_iff]
 unfold stepM behindM
 simp [needB_iff]

theorem need_of_closed {code : List In} {M : Nat → Nat → Bool} {t : Nat} (hs : ∀ k, k < code.length → M k t = true → Need code t k) (hc : ∀ k, k < code.length → stepM code M k t = true → M k t = true) :
   ∀ k, k < code.length → M k t = needB code k t := by
 have h1 : ∀ n k, k < code.length → needN code t n k = true → M k t = true := by
   intro n
   induction n with
   | zero => intro k _ h; simp [needN] at h
   | succ n ih =>
     intro k hk h
     apply hc k hk
     rw [needN] at h
     unfold stepM behindM
     simp only [Bool.or_eq_true, Bool.and_eq_true, List.any_eq_true, Bool.not_eq_true'] at h ⊢
     rcases h with h | ⟨h1, m, hm, h2⟩
     · exact Or.inl h
     · refine Or.inr ⟨h1, m, hm, ih m ?_ h2⟩
       unfold nx at hm
       simpa using (List.mem_filter.1 hm).2
 intro k hk
 rw [Bool.eq_iff_iff, needB_iff]
 exact ⟨hs k hk, fun ⟨n, h⟩ => h1 n k hk h⟩

noncomputable def needM (p : Pg) : List (List Bool) := (List.range p.code.length).map fun k => (List.range p.wide.length).map fun t => needB p.code k t

def nearAt (code : List In) (M : Nat → Nat → Bool) (k a b : Nat) : Bool :=
 givesB (inAt code k) a && !(decide ((inAt code k).op = 2) && decide ((inAt code k).a = (b : Int))) && behindM code M k b
noncomputable def nearB (code : List In) (a b : Nat) : Bool :=
 decide (a ≠ b) && ((needB code 0 a && needB code 0 b) || (List.range code.length).any fun k => nearAt code (needB code) k a b || nearAt code (needB code) k b a)
noncomputable def nearM (p : Pg) : List (List Bool) := (List.range p.wide.length).map fun a => (List.range p.wide.length).map fun b => nearB p.code a b

theorem nearB_comm (code : List In) (a b : Nat) : nearB code a b = nearB code b a := by
 unfold nearB
 have h1 : decide (a ≠ b) = decide (b ≠ a) := by rw [decide_eq_decide]; exact ne_comm
 rw [h1, Bool.and_comm (needB code 0 a)]
 congr 2
 congr 1
 funext k
 rw [Bool.or_comm]
theorem nearB_self (code : List In) (a : Nat) : nearB code a a = false := by unfold nearB; simp
end Go.Proofs.YtodmkjeankbieaaGreatDoor


namespace Go.Proofs.YtodmkjeankbieaaGreatDoor

structure Fc where
 pl : PlaceV
 temp : Bool
 t : Int
 n : Nat
 deriving DecidableEq

def hasF (a : PlaceV) (t : Int) : Fc := ⟨a, true, t, 0⟩
def isF (a : PlaceV) (n : Nat) : Fc := ⟨a, false, 0, n⟩
def knF (t : Int) (n : Nat) : Fc := ⟨⟨0, 0⟩, true, t, n⟩

def NumIn (p : Pg) (n : Nat) : Prop := n = 0 ∨ ∃ i ∈ p.code, i.op = 1 ∧ i.n = n
def mayT (wide : List Bool) (k t : Int) : Bool := decide (k = 3) || (wd wide t == decide (k = 2))
def tempIn (p : Pg) (t : Int) : Prop := 0 ≤ t ∧ t < p.wide.length

def FactIn (p : Pg) (sg sl : Int) (f : Fc) : Prop :=
 (f.pl = ⟨0, 0⟩ ∧ f.temp = true ∧ tempIn p f.t ∧ wd p.wide f.t = false ∧ NumIn p f.n) ∨
 (isB sg sl f.pl = true ∧ f.temp = true ∧ f.n = 0 ∧ tempIn p f.t ∧ mayT p.wide f.pl.k f.t = true) ∨
 (isB sg sl f.pl = true ∧ f.temp = false ∧ f.t = 0 ∧ f.pl.k ≠ 2 ∧ NumIn p f.n)

abbrev FS := Fc → Prop

def beginF (p : Pg) (sg sl : Int) : FS := fun f => FactIn p sg sl f ∧ f.n = 0

def withoutF (s : FS) (a : PlaceV) (t : Int) : FS := fun f => s f ∧ (f.pl.k = 0 ∨ ovP f.pl a = false) ∧ (f.temp = false ∨ f.t ≠ t)

def moveF (p : Pg) (s : FS) (m : Mv) : FS := fun f =>
 withoutF s m.to (-1) f ∨ (m.c = true ∧ NumIn p m.n ∧ f = isF m.to m.n) ∨ (m.c = true ∧ ∃ g, s g ∧ g.pl.k = 0 ∧ g.n = m.n ∧ f = hasF m.to g.t) ∨
 (m.c = false ∧ ∃ g, s g ∧ g.pl = m.fr ∧ ((g.temp = true ∧ mayT p.wide m.to.k g.t = true ∧ f = hasF m.to g.t) ∨ (g.temp = false ∧ m.to.k ≠ 2 ∧ f = isF m.to g.n)))
def movesF (p : Pg) (s : FS) (l : List Mv) : FS := l.foldl (moveF p) s

def giveF (s : FS) (i : In) (a : PlaceV) : FS := fun f =>
 withoutF s a i.d f ∨
 (i.op = 1 ∧ ((∃ g, s g ∧ g.temp = false ∧ g.n = i.n ∧ ovP g.pl a = false ∧ f = hasF g.pl i.d) ∨ f = knF i.d i.n ∨ f = isF a i.n)) ∨
 (i.op = 2 ∧ ((∃ g, s g ∧ g.temp = true ∧ g.t = i.a ∧ ((g.pl.k = 0 ∧ (f = knF i.d g.n ∨ f = isF a g.n)) ∨ (g.pl.k ≠ 0 ∧ ovP g.pl a = false ∧ f = hasF g.pl i.d))) ∨ f = hasF a i.a)) ∨
 f = hasF a i.d
def insF (s : FS) (i : In) (a : PlaceV) : FS := if gvs i.op then giveF s i a else s

def thruF (p : Pg) (s : FS) (i : In) (r : Rw) : FS := movesF p (insF (movesF p s r.before) i r.d) r.after
def tookF (p : Pg) (s : FS) (i : In) (r : Rw) : Prop :=
 (0 < many i.op → movesF p s r.before (hasF r.a i.a)) ∧ (1 < many i.op → movesF p s r.before (hasF r.b i.b))

section
variable {p : Pg} {s s' : FS}
theorem withoutF_mono (h : ∀ f, s f → s' f) (a : PlaceV) (t : Int) : ∀ f, withoutF s a t f → withoutF s' a t f := fun f hf => ⟨h f hf.1, hf.2⟩
theorem moveF_mono (h : ∀ f, s f → s' f) (m : Mv) : ∀ f, moveF p s m f → moveF p s' m f := by
 rintro f (h1 | h1 | ⟨h0, g, h1, h2⟩ | ⟨h0, g, h1, h2⟩)
 · exact Or.inl (withoutF_mono h _ _ f h1)
 · exact Or.inr (Or.inl h1)
 · exact Or.inr (Or.inr (Or.inl ⟨h0, g, h g h1, h2⟩))
 · exact Or.inr (Or.inr (Or.inr ⟨h0, g, h g h1, h2⟩))
theorem movesF_mono : ∀ (l : List Mv) {s s' : FS}, (∀ f, s f → s' f) → ∀ f, movesF p s l f → movesF p s' l f
 | [], _, _, h => h
 | m :: l, _, _, h => movesF_mono l (moveF_mono h m)
theorem giveF_mono (h : ∀ f, s f → s' f) (i : In) (a : PlaceV) : ∀ f, giveF s i a f → giveF s' i a f := by
 rintro f (h1 | ⟨h0, h1⟩ | ⟨h0, h1⟩ | h1)
 · exact Or.inl (withoutF_mono h _ _ f h1)
 · refine Or.inr (Or.inl ⟨h0, ?_⟩)
   rcases h1 with ⟨g, h1, h2⟩ | h1
   · exact Or.inl ⟨g, h g h1, h2⟩
   · exact Or.inr h1
 · refine Or.inr (Or.inr (Or.inl ⟨h0, ?_⟩))
   rcases h1 with ⟨g, h1, h2⟩ | h1
   · exact Or.inl ⟨g, h g h1, h2⟩
   · exact Or.inr h1
 · exact Or.inr (Or.inr (Or.inr h1))
theorem insF_mono (h : ∀ f, s f → s' f) (i : In) (a : PlaceV) : ∀ f, insF s i a f → insF s' i a f := by
 unfold insF
 split
 · exact giveF_mono h i a
 · exact h
theorem thruF_mono (h : ∀ f, s f → s' f) (i : In) (r : Rw) : ∀ f, thruF p s i r f → thruF p s' i r f :=
 movesF_mono _ (insF_mono (movesF_mono _ h) i r.d)
theorem tookF_mono (h : ∀ f, s f → s' f) {i : In} {r : Rw} (ht : tookF p s i r) : tookF p s' i r :=
 ⟨fun hm => movesF_mono _ h _ (ht.1 hm), fun hm => movesF_mono _ h _ (ht.2 hm)⟩
end

def ComeN (code : List In) : Nat → Nat → Prop
 | 0, k => k = 0
 | n + 1, k => ∃ j, ComeN code n j ∧ k ∈ nx code j
def Come (code : List In) (k : Nat) : Prop := ∃ n, ComeN code n k
theorem Come.zero (code : List In) : Come code 0 := ⟨0, rfl⟩
theorem Come.next {code : List In} {k m : Nat} (h : Come code k) (hm : m ∈ nx code k) : Come code m := let ⟨n, hn⟩ := h; ⟨n + 1, k, hn, hm⟩
theorem Come.ind {code : List In} {C : Nat → Prop} (h0 : C 0) (hs : ∀ k m, Come code k → C k → m ∈ nx code k → C m) : ∀ k, Come code k → C k := by
 rintro k ⟨n, h⟩
 induction n generalizing k with
 | zero => cases h; exact h0
 | succ n ih =>
   obtain ⟨j, hj, hk⟩ := h
   exact hs j k ⟨n, hj⟩ (ih j hj) hk
theorem nx_lt {code : List In} {k m : Nat} (h : m ∈ nx code k) : m < code.length := by
 unfold nx at h
 simpa using (List.mem_filter.1 h).2
theorem Come.lt {code : List In} {k : Nat} (h : Come code k) (h0 : 0 < code.length) : k < code.length := by
 obtain ⟨n, h⟩ := h
 cases n with
 | zero => cases h; exact h0
 | succ n => obtain ⟨j, _, hk⟩ := h; exact nx_lt hk

section
variable (p : Pg) (sg : Int) (l : Pd)
def IsSol (Y : Nat → FS) : Prop :=
 (∀ f, Y 0 f → beginF p sg l.slots f) ∧ ∀ k, Come p.code k → ∀ m ∈ nx p.code k, ∀ f, Y m f → thruF p (Y k) (inAt p.code k) (rwAt l.rows k) f
def Kn (k : Nat) : FS := fun f => Come p.code k ∧ ∃ Y, IsSol p sg l Y ∧ Y k f
def Taken : Prop := ∀ k, Come p.code k → tookF p (Kn p sg l k) (inAt p.code k) (rwAt l.rows k)
end

section
variable {p : Pg} {sg : Int} {l : Pd}
theorem Kn_sol : IsSol p sg l (Kn p sg l) := by
 refine ⟨fun f ⟨_, Y, hY, hf⟩ => hY.1 f hf, ?_⟩
 rintro k hk m hm f ⟨_, Y, hY, hf⟩
 exact thruF_mono (fun g hg => ⟨hk, Y, hY, hg⟩) _ _ f (hY.2 k hk m hm f hf)
theorem Kn_max {Y : Nat → FS} (hY : IsSol p sg l Y) {k : Nat} (hk : Come p.code k) {f : Fc} (hf : Y k f) : Kn p sg l k f := ⟨hk, Y, hY, hf⟩
theorem taken_of_sol {Y : Nat → FS} (hY : IsSol p sg l Y) (ht : ∀ k, Come p.code k → tookF p (Y k) (inAt p.code k) (rwAt l.rows k)) : Taken p sg l :=
 fun k hk => tookF_mono (fun _ hf => Kn_max hY hk hf) (ht k hk)
end

end Go.Proofs.YtodmkjeankbieaaGreatDoor


namespace Go.Proofs.YtodmkjeankbieaaGreatDoor

theorem inAt_get {code : List In} {k : Nat} (h : k < code.length) : inAt code k = code[k] := by
 unfold inAt; rw [List.getD_eq_getElem?_getD, List.getElem?_eq_getElem h]; rfl
theorem inAt_mem {code : List In} {k : Nat} (h : k < code.length) : inAt code k ∈ code := by rw [inAt_get h]; exact List.getElem_mem h
theorem rwAt_get {rows : List Rw} {k : Nat} (h : k < rows.length) : rwAt rows k = rows[k] := by
 unfold rwAt; rw [List.getD_eq_getElem?_getD, List.getElem?_eq_getElem h]; rfl
theorem mayB_ins {p : Pg} (h : mayB p = true) {i : In} (hi : i ∈ p.code) : insB p i = true := by
 unfold mayB at h
 simp only [Bool.and_eq_true, List.all_eq_true] at h
 exact h.1.1.1.1 i hi
theorem mayB_len {p : Pg} (h : mayB p = true) : 1 ≤ p.wide.length ∧ p.wide.length ≤ 12 ∧ 1 ≤ p.code.length ∧ p.code.length ≤ 40 := by
 unfold mayB at h
 simp only [Bool.and_eq_true, decide_eq_true_eq] at h
 exact ⟨h.1.1.1.2, h.1.1.2, h.1.2, h.2⟩
theorem mayL_facts {p : Pg} {sg : Int} {l : Pd} (h : mayL p sg l = true) : mayB p = true ∧ tgB sg = true ∧ 0 ≤ l.slots ∧ l.slots ≤ 12 ∧ l.rows.length = p.code.length := by
 unfold mayL at h
 simp only [Bool.and_eq_true, decide_eq_true_eq] at h
 exact ⟨h.1.1.1.1.1, h.1.1.1.1.2, h.1.1.1.2, h.1.1.2, h.1.2⟩
theorem mayL_row {p : Pg} {sg : Int} {l : Pd} (h : mayL p sg l = true) {k : Nat} (hk : k < p.code.length) : rwB p sg l.slots (inAt p.code k) (rwAt l.rows k) = true := by
 have hl := (mayL_facts h).2.2.2.2
 unfold mayL at h
 simp only [Bool.and_eq_true, List.all_eq_true] at h
 have hz : (p.code[k], l.rows[k]'(by omega)) ∈ p.code.zip l.rows := by
   rw [List.mem_iff_getElem]
   exact ⟨k, by simp; omega, by simp⟩
 have := h.2 _ hz
 rw [inAt_get hk, rwAt_get (by omega)]
 exact this

structure InsOk (p : Pg) (i : In) : Prop where
 kn : known i.op = true
 d : gvs i.op = true → tempIn p i.d
 a : 0 < many i.op → tempIn p i.a
 b : 1 < many i.op → tempIn p i.b
 c : i.op = 8 ∨ i.op = 9 → 0 ≤ i.c ∧ i.c < p.code.length
 w1 : i.op = 1 ∨ i.op = 3 ∨ i.op = 6 ∨ i.op = 7 ∨ (20 < i.op ∧ i.op ≤ 26) → wd p.wide i.d = false
 w2 : i.op = 2 → wd p.wide i.d = wd p.wide i.a
 w5 : i.op = 5 → wd p.wide i.d = true ∧ wd p.wide i.a = false ∧ wd p.wide i.b = false
 w6 : i.op = 6 ∨ i.op = 7 → wd p.wide i.a = true
 w20 : (20 < i.op ∧ i.op ≤ 26) → wd p.wide i.a = false ∧ wd p.wide i.b = false
 w40 : 40 < i.op → wd p.wide i.d = true ∧ wd p.wide i.a = true ∧ wd p.wide i.b = true

theorem insOk {p : Pg} {i : In} (h : insB p i = true) : InsOk p i := by
 rw [insB_eq] at h
 have hk := insR_known h
 obtain ⟨op, d, a, b, c, n⟩ := i
 unfold insR at h
 simp only [Bool.and_eq_true] at h
 obtain ⟨⟨⟨⟨_, h1⟩, h2⟩, h3⟩, h4⟩ := h
 obtain ⟨⟨h2, h5⟩, h6⟩ := h2
 simp only at hk h1 h2 h3 h4 h5 h6
 have hD : gvs op = true → tempIn p d := fun hg => by
   unfold fieldR at h2; rw [if_pos hg] at h2; simpa [inB, tempIn] using h2
 have hA : 0 < many op → tempIn p a := fun hg => by
   unfold fieldR at h5; rw [if_pos (decide_eq_true hg)] at h5; simpa [inB, tempIn] using h5
 have hB : 1 < many op → tempIn p b := fun hg => by
   unfold fieldR at h6; rw [if_pos (decide_eq_true hg)] at h6; simpa [inB, tempIn] using h6
 have hC : op = 8 ∨ op = 9 → 0 ≤ c ∧ c < p.code.length := fun hg => by
   rw [if_pos hg] at h3; simpa [inB] using h3
 rcases known_cases hk with rfl | rfl | rfl | rfl | rfl | rfl | rfl | rfl | rfl | rfl | ⟨g1, g2⟩ | ⟨g1, g2⟩
 case inr.inr.inr.inr.inr.inr.inr.inr.inr.inr.inl =>
   have e1 : ¬ op = 2 := by omega
   have e2 : ¬ op = 5 := by omega
   have e3 : ¬ (op = 6 ∨ op = 7) := by omega
   have e4 : ¬ 40 < op := by omega
   simp only [widthsR, kinds, uses, gvs_op g1, many_op g1, e1, e2, e3, e4] at h4
   simp at h4
   refine ⟨hk, hD, hA, hB, hC, fun _ => ?_, fun h => ?_, fun h => ?_, fun h => ?_, fun _ => ?_, fun h => ?_⟩ <;> simp only at *
   · exact h4.1
   · omega
   · omega
   · omega
   · exact ⟨h4.2.1, h4.2.2⟩
   · omega
 case inr.inr.inr.inr.inr.inr.inr.inr.inr.inr.inr =>
   have e1 : ¬ op = 2 := by omega
   have e2 : ¬ op = 5 := by omega
   have e3 : ¬ (op = 6 ∨ op = 7) := by omega
   have g3 : 20 < op := by omega
   simp only [widthsR, kinds, uses, gvs_op g3, many_op g3, e1, e2, e3, g1] at h4
   simp at h4
   refine ⟨hk, hD, hA, hB, hC, fun h => ?_, fun h => ?_, fun h => ?_, fun h => ?_, fun h => ?_, fun _ => ?_⟩ <;> simp only at *
   · omega
   · omega
   · omega
   · omega
   · omega
   · exact ⟨h4.1, h4.2.1, h4.2.2⟩
 all_goals
   simp [widthsR, kinds, uses, gvs, many] at h4
   refine ⟨hk, hD, hA, hB, hC, fun h => ?_, fun h => ?_, fun h => ?_, fun h => ?_, fun h => ?_, fun h => ?_⟩ <;> simp only at * <;> first | omega | simp_all

theorem isB_kind {sg sl : Int} {a : PlaceV} (h : isB sg sl a = true) : a.k = 1 ∨ a.k = 2 ∨ a.k = 3 := by
 unfold isB at h
 have := of_decide_eq_true h
 split at this
 · omega
 · split at this
   · omega
   · split at this <;> omega
theorem factIn_k0 {p : Pg} {sg sl : Int} {f : Fc} (h : FactIn p sg sl f) (h0 : f.pl.k = 0) : f.pl = ⟨0, 0⟩ ∧ f.temp = true ∧ tempIn p f.t ∧ wd p.wide f.t = false ∧ NumIn p f.n := by
 rcases h with h | ⟨h, _⟩ | ⟨h, _⟩
 · exact h
 · have := isB_kind h; omega
 · have := isB_kind h; omega
theorem factIn_temp {p : Pg} {sg sl : Int} {f : Fc} (h : FactIn p sg sl f) (h0 : f.pl.k ≠ 0) (ht : f.temp = true) : isB sg sl f.pl = true ∧ f.n = 0 ∧ tempIn p f.t ∧ mayT p.wide f.pl.k f.t = true := by
 rcases h with ⟨h, _⟩ | ⟨h, _, h2⟩ | ⟨_, h, _⟩
 · rw [h] at h0; exact absurd rfl h0
 · exact ⟨h, h2⟩
 · rw [ht] at h; cases h
theorem factIn_num {p : Pg} {sg sl : Int} {f : Fc} (h : FactIn p sg sl f) (ht : f.temp = false) : isB sg sl f.pl = true ∧ f.t = 0 ∧ f.pl.k ≠ 2 ∧ NumIn p f.n := by
 rcases h with ⟨_, h, _⟩ | ⟨_, h, _⟩ | ⟨h, _, h2⟩
 · rw [ht] at h; cases h
 · rw [ht] at h; cases h
 · exact ⟨h, h2⟩

def NumOk (p : Pg) : Prop := ∀ i ∈ p.code, i.n < 4294967296
theorem numIn_lt {p : Pg} (h : NumOk p) {n : Nat} (hn : NumIn p n) : n < 4294967296 := by
 rcases hn with rfl | ⟨i, hi, _, rfl⟩
 · omega
 · exact h i hi

theorem mvB_facts {sg sl : Int} {m : Mv} (h : mvB sg sl m = true) : isB sg sl m.to = true ∧ (m.c = true → m.to.k = 1) ∧ (m.c = false → isB sg sl m.fr = true) := by
 unfold mvB at h
 rw [Bool.and_eq_true] at h
 refine ⟨h.1, fun hc => ?_, fun hc => ?_⟩
 · have := h.2; rw [if_pos hc] at this; simp at this; exact this.2
 · have := h.2; rw [if_neg (by rw [hc]; decide)] at this; simp at this; exact this.1.2

section
variable {p : Pg} {sg sl : Int} {s : FS}
def InU (p : Pg) (sg sl : Int) (s : FS) : Prop := ∀ f, s f → FactIn p sg sl f

theorem moveF_in (hu : InU p sg sl s) {m : Mv} (hm : mvB sg sl m = true) : InU p sg sl (moveF p s m) := by
 obtain ⟨m1, m2, m3⟩ := mvB_facts hm
 rintro f (h1 | ⟨hc, hn, rfl⟩ | ⟨hc, g, hg, h0, hn, rfl⟩ | ⟨hc, g, hg, hp, h1⟩)
 · exact hu f h1.1
 · exact Or.inr (Or.inr ⟨m1, rfl, rfl, by have := m2 hc; show m.to.k ≠ 2; omega, hn⟩)
 · obtain ⟨_, _, q1, q2, _⟩ := factIn_k0 (hu g hg) h0
   refine Or.inr (Or.inl ⟨m1, rfl, rfl, q1, ?_⟩)
   show mayT p.wide m.to.k g.t = true
   unfold mayT
   rw [m2 hc, q2]; decide
 · have hk := isB_kind (m3 hc)
   rcases h1 with ⟨ht, hy, rfl⟩ | ⟨ht, hy, rfl⟩
   · obtain ⟨_, _, q1, _⟩ := factIn_temp (hu g hg) (by rw [hp]; omega) ht
     exact Or.inr (Or.inl ⟨m1, rfl, rfl, q1, hy⟩)
   · obtain ⟨_, _, _, q⟩ := factIn_num (hu g hg) ht
     exact Or.inr (Or.inr ⟨m1, rfl, rfl, hy, q⟩)
theorem movesF_in : ∀ (l : List Mv) {s : FS}, InU p sg sl s → (∀ m ∈ l, mvB sg sl m = true) → InU p sg sl (movesF p s l)
 | [], _, hu, _ => hu
 | m :: l, _, hu, hm => movesF_in l (moveF_in hu (hm m (by simp))) fun x hx => hm x (List.mem_cons_of_mem _ hx)

variable {st : Sto} {τ : Int → Int}
def IsReg (p : Pg) (sg sl : Int) (t : Int) (a : PlaceV) : Prop := a.k = (if wd p.wide t then 2 else 1) ∧ isB sg sl a = true

theorem giveF_in (hu : InU p sg sl s) {i : In} (hi : InsOk p i) (hg : gvs i.op = true) {a : PlaceV} (ha : IsReg p sg sl i.d a) (hc : i ∈ p.code) : InU p sg sl (giveF s i a) := by
 have hd := hi.d hg
 have hmay : ∀ t, wd p.wide t = wd p.wide i.d → mayT p.wide a.k t = true := by
   intro t ht
   unfold mayT
   rw [ha.1, ht]
   cases wd p.wide i.d <;> decide
 rintro f (h1 | ⟨h0, h1⟩ | ⟨h0, h1⟩ | rfl)
 · exact hu f h1.1
 · have hw : wd p.wide i.d = false := hi.w1 (Or.inl h0)
   rcases h1 with ⟨g, hgs, ht, hn, _, rfl⟩ | rfl | rfl
   · obtain ⟨q1, _, q2, _⟩ := factIn_num (hu g hgs) ht
     refine Or.inr (Or.inl ⟨q1, rfl, rfl, hd, ?_⟩)
     show mayT p.wide g.pl.k i.d = true
     unfold mayT
     rw [hw]
     simp [q2]
   · exact Or.inl ⟨rfl, rfl, hd, hw, Or.inr ⟨i, hc, h0, rfl⟩⟩
   · exact Or.inr (Or.inr ⟨ha.2, rfl, rfl, by have := ha.1; rw [hw] at this; show a.k ≠ 2; simp at this; omega, Or.inr ⟨i, hc, h0, rfl⟩⟩)
 · have hw := hi.w2 h0
   have hta : tempIn p i.a := hi.a (by rw [h0]; decide)
   rcases h1 with ⟨g, hgs, ht, hga, h1⟩ | rfl
   · rcases h1 with ⟨h2, h1⟩ | ⟨h2, _, rfl⟩
     · obtain ⟨_, _, _, q2, q3⟩ := factIn_k0 (hu g hgs) h2
       rw [hga, ← hw] at q2
       rcases h1 with rfl | rfl
       · exact Or.inl ⟨rfl, rfl, hd, q2, q3⟩
       · exact Or.inr (Or.inr ⟨ha.2, rfl, rfl, by have := ha.1; rw [q2] at this; show a.k ≠ 2; simp at this; omega, q3⟩)
     · obtain ⟨q1, _, _, q2⟩ := factIn_temp (hu g hgs) h2 ht
       refine Or.inr (Or.inl ⟨q1, rfl, rfl, hd, ?_⟩)
       show mayT p.wide g.pl.k i.d = true
       rw [hga] at q2
       unfold mayT at q2 ⊢
       rw [hw]
       exact q2
   · exact Or.inr (Or.inl ⟨ha.2, rfl, rfl, hta, hmay _ hw.symm⟩)
 · exact Or.inr (Or.inl ⟨ha.2, rfl, rfl, hd, hmay _ rfl⟩)

end

end Go.Proofs.YtodmkjeankbieaaGreatDoor


namespace Go.Proofs.YtodmkjeankbieaaGreatDoor

theorem giveV_range {p : Pg} {τ : Int → Int} (ht : ∀ t, 0 ≤ τ t ∧ τ t < 18446744073709551616) (hnar : ∀ t, wd p.wide t = false → τ t < 4294967296) {i : In} (hi : InsOk p i) (hn : i.n < 4294967296) (hg : gvs i.op = true) {x : Int} (hx : 0 ≤ x ∧ x < 4294967296) :
   (0 ≤ giveV i (τ i.a) (τ i.b) x ∧ giveV i (τ i.a) (τ i.b) x < 18446744073709551616) ∧ (wd p.wide i.d = false → giveV i (τ i.a) (τ i.b) x < 4294967296) := by
 have ha := ht i.a
 have hb := ht i.b
 have hna := hnar i.a
 have hnb := hnar i.b
 generalize τ i.a = a at *
 generalize τ i.b = b at *
 rcases known_cases hi.kn with h | h | h | h | h | h | h | h | h | h | ⟨h1, h2⟩ | ⟨h1, h2⟩
 · unfold giveV; rw [if_pos h]; omega
 · unfold giveV; rw [if_neg (by omega), if_pos h]
   exact ⟨ha, fun hw => hna (by rw [← hi.w2 h]; exact hw)⟩
 · unfold giveV; rw [if_neg (by omega), if_neg (by omega), if_pos h]; omega
 · rw [h] at hg; exact absurd hg (by decide)
 · unfold giveV; rw [if_neg (by omega), if_neg (by omega), if_neg (by omega), if_pos h]
   obtain ⟨w1, w2, w3⟩ := hi.w5 h
   have := hna w2
   have := hnb w3
   exact ⟨by omega, fun hw => by rw [w1] at hw; cases hw⟩
 · unfold giveV; rw [if_neg (by omega), if_neg (by omega), if_neg (by omega), if_neg (by omega), if_pos h]; omega
 · unfold giveV; rw [if_neg (by omega), if_neg (by omega), if_neg (by omega), if_neg (by omega), if_neg (by omega), if_pos h]; omega
 · rw [h] at hg; exact absurd hg (by decide)
 · rw [h] at hg; exact absurd hg (by decide)
 · rw [h] at hg; exact absurd hg (by decide)
 · unfold giveV; rw [if_neg (by omega), if_neg (by omega), if_neg (by omega), if_neg (by omega), if_neg (by omega), if_neg (by omega), if_neg (by omega)]
   have := narrowOp_range (i.op - 20) (a % 4294967296) (b % 4294967296) (by omega) (by omega)
   omega
 · unfold giveV; rw [if_neg (by omega), if_neg (by omega), if_neg (by omega), if_neg (by omega), if_neg (by omega), if_neg (by omega), if_pos h1]
   have := wideOp_range (i.op - 40) a b (by omega) (by omega)
   have hw := (hi.w40 h1).1
   exact ⟨by omega, fun h => by rw [hw] at h; cases h⟩

theorem rwB_facts {p : Pg} {sg sl : Int} {i : In} {r : Rw} (h : rwB p sg sl i r = true) (hk : known i.op = true) :
   (∀ m ∈ r.before, mvB sg sl m = true) ∧ (∀ m ∈ r.after, mvB sg sl m = true) ∧ (gvs i.op = true → IsReg p sg sl i.d r.d) ∧ (0 < many i.op → IsReg p sg sl i.a r.a) ∧ (1 < many i.op → IsReg p sg sl i.b r.b) ∧
   (8 ≤ i.op → i.op ≤ 10 → r.after = []) := by
 unfold rwB at h
 simp only [Bool.and_eq_true] at h
 obtain ⟨⟨⟨h0, h1⟩, h2⟩, ⟨h3, h4⟩, h5⟩ := h
 obtain ⟨s0, s1, s2⟩ := shape_there hk
 have hr : ∀ {l : UInt8} {t : Int} {a : PlaceV}, plB p.wide sg sl l t a = true → decide (l = 45) = false → IsReg p sg sl t a := by
   intro l t a hp hl
   have hl := of_decide_eq_false hl
   unfold plB kindV at hp
   rw [if_neg hl] at hp
   unfold IsReg
   cases hw : wd p.wide t <;> rw [hw] at hp <;> simp at hp <;> simpa using hp
 refine ⟨?_, ?_, fun hg => ?_, fun hg => ?_, fun hg => ?_, fun g1 g2 => ?_⟩
 · intro m hm
   unfold mvsB at h3
   simp only [Bool.and_eq_true, List.all_eq_true] at h3
   exact h3.1 m hm
 · intro m hm
   unfold mvsB at h4
   simp only [Bool.and_eq_true, List.all_eq_true] at h4
   exact h4.1 m hm
 · exact hr h0 (by rw [s0, hg]; rfl)
 · exact hr h1 (by rw [s1, decide_eq_true hg]; rfl)
 · exact hr h2 (by rw [s2, decide_eq_true hg]; rfl)
 · simp at h5
   rcases h5 with h5 | h5
   · omega
   · exact h5

section
variable {p : Pg} {sg : Int} {l : Pd}
theorem Kn_in (hm : mayL p sg l = true) : ∀ k, Come p.code k → InU p sg l.slots (Kn p sg l k) := by
 obtain ⟨mB, tB, s0, s1, hl⟩ := mayL_facts hm
 apply Come.ind
 · intro f hf
   exact ((Kn_sol (p := p) (sg := sg) (l := l)).1 f hf).1
 · intro k m hk hU hmk f hf
   have hkl := hk.lt (by have := mayB_len mB; omega)
   have hi := insOk (mayB_ins mB (inAt_mem hkl))
   obtain ⟨r1, r2, r3, _⟩ := rwB_facts (mayL_row hm hkl) hi.kn
   have := (Kn_sol (p := p) (sg := sg) (l := l)).2 k hk m hmk f hf
   refine movesF_in _ ?_ r2 f this
   unfold insF
   split
   · rename_i hg
     exact giveF_in (movesF_in _ hU r1) hi hg (r3 hg) (inAt_mem hkl)
   · exact movesF_in _ hU r1

end

end Go.Proofs.YtodmkjeankbieaaGreatDoor


namespace Go.Proofs.YtodmkjeankbieaaGreatDoor

def unF (r : Sh) : Sh := ⟨r.pc, r.ins, r.out, r.steps, if r.state = 2 then 0 else r.state⟩
def rawStep (r : Sh) (i : In) (a : Int) : Sh :=
 ⟨pcV i r.pc a, if i.op = 3 then r.ins.tail else r.ins, if i.op = 4 then r.out ++ [a % 4294967296] else r.out, r.steps + 1, if i.op = 10 then 1 else r.state⟩
theorem raw_step {code : List In} {x : Sh} (h0 : x.state = 0) (a : Int) : rawStep (unF x) (inAt code x.pc) a = unF (shStep code x a) := by
 unfold rawStep unF shStep stV
 simp only [h0]
 by_cases h : (inAt code x.pc).op = 10
 · simp [h]
 · by_cases h2 : code.length ≤ pcV (inAt code x.pc) x.pc a
   · simp [h, h2]
   · simp [h, h2]

section
variable {σ : Type} {code : List In} {M : Mach σ} {x0 : Sh × σ} {n : Nat}
structure At (code : List In) (M : Mach σ) (x0 : Sh × σ) (n : Nat) (x : Sh × σ) : Prop where
 k : x = mRun code M x.1.steps x0
 le : x.1.steps ≤ n
 st0 : x.1.state = 0 → x.1.pc < code.length
 st2 : x.1.state = 2 → code.length ≤ x.1.pc
 st : x.1.state ≤ 2
theorem At.start (s : σ) (ins : List Int) (h : 1 ≤ code.length) : At code M (sh0 ins, s) n (sh0 ins, s) :=
 ⟨rfl, Nat.zero_le _, fun _ => h, fun h => by simp [sh0] at h, by simp [sh0]⟩
theorem At.step {x : Sh × σ} (h : At code M x0 n x) (h0 : x.1.state = 0) (hs : x.1.steps < n) : At code M x0 n (mStep code M x) := by
 have e : (mStep code M x).1.steps = x.1.steps + 1 := rfl
 have e2 : ∀ a, stV code.length (inAt code x.1.pc) x.1.pc a = 0 → pcV (inAt code x.1.pc) x.1.pc a < code.length := by
   intro a; unfold stV; split
   · intro h; cases h
   · split
     · intro h; cases h
     · intro _; omega
 have e3 : ∀ a, stV code.length (inAt code x.1.pc) x.1.pc a = 2 → code.length ≤ pcV (inAt code x.1.pc) x.1.pc a := by
   intro a; unfold stV; split
   · intro h; cases h
   · split
     · intro _; assumption
     · intro h; cases h
 have e4 : ∀ a, stV code.length (inAt code x.1.pc) x.1.pc a ≤ 2 := by
   intro a; unfold stV; split
   · omega
   · split <;> omega
 refine ⟨?_, by rw [e]; omega, e2 _, e3 _, e4 _⟩
 rw [e, mRun_succ, ← h.k, if_pos h0]
theorem At.stop {x : Sh × σ} (h : At code M x0 n x) (hs : x.1.state ≠ 0 ∨ ¬ x.1.steps < n) : x = mRun code M n x0 := by
 have hn : n = x.1.steps + (n - x.1.steps) := by have := h.le; omega
 have h2 : mRun code M n x0 = mRun code M (n - x.1.steps) x := by
   conv => lhs; rw [hn, mRun_add, ← h.k]
 rw [h2]
 rcases hs with hs | hs
 · rw [mRun_stop _ hs]
 · rw [show n - x.1.steps = 0 by omega]; rfl
theorem At.ended {x : Sh × σ} (h : At code M x0 n x) (h1 : (unF x.1).state = 0) (h2 : code.length ≤ x.1.pc) : x.1 = ⟨x.1.pc, x.1.ins, x.1.out, x.1.steps, 2⟩ := by
 have h3 : x.1.state = 2 := by
   have := h.st0
   unfold unF at h1; simp only at h1
   split at h1
   · assumption
   · have := this h1; omega
 obtain ⟨⟨_, _, _, _, _⟩, _⟩ := x
 simp only at h3 ⊢
 rw [h3]
theorem At.same {x : Sh × σ} (h : At code M x0 n x) (h1 : (unF x.1).state ≠ 0 ∨ x.1.pc < code.length) : unF x.1 = x.1 := by
 have h3 : x.1.state ≠ 2 := by
   intro e
   have := h.st2 e
   rcases h1 with h1 | h1
   · unfold unF at h1; simp [e] at h1
   · omega
 obtain ⟨⟨_, _, _, _, _⟩, _⟩ := x
 simp only at h3
 unfold unF
 simp only
 rw [if_neg h3]
theorem At.out {x : Sh × σ} (h : At code M x0 n x) (h0 : x0.1.out = []) : x.1.out.length ≤ n := by
 have := mRun_outlen (code := code) (M := M) x.1.steps x0
 rw [← h.k, h0] at this
 have := h.le
 simp at *
 omega
theorem mStep_ins (x : Sh × σ) : ∀ y ∈ (mStep code M x).1.ins, y ∈ x.1.ins := by
 unfold mStep shStep
 simp only
 split
 · intro y hy; exact List.mem_of_mem_tail hy
 · exact fun _ h => h
theorem mRun_ins (n : Nat) (x : Sh × σ) : ∀ y ∈ (mRun code M n x).1.ins, y ∈ x.1.ins := by
 induction n generalizing x with
 | zero => exact fun _ h => h
 | succ n ih =>
   rw [mRun]
   split
   · intro y hy; exact mStep_ins x y (ih _ y hy)
   · exact fun _ h => h
theorem At.ins {x : Sh × σ} (h : At code M x0 n x) : ∀ y ∈ x.1.ins, y ∈ x0.1.ins := by
 have := mRun_ins (code := code) (M := M) x.1.steps x0
 rwa [← h.k] at this
end

structure Temps (p : Pg) (T : Int → Int) : Prop where
 ge : ∀ t, 0 ≤ T t
 lt : ∀ t, T t < 18446744073709551616
 nar : ∀ t, wd p.wide t = false → T t < 4294967296
theorem Temps.zero (p : Pg) : Temps p (fun _ => 0) := ⟨fun _ => by decide, fun _ => by decide, fun _ _ => by decide⟩
theorem Temps.step {p : Pg} {x : Sh × (Int → Int)} (h : Temps p x.2) (hm : mayB p = true) (hn : NumOk p) (hp : x.1.pc < p.code.length) (hi : ∀ y ∈ x.1.ins, 0 ≤ y ∧ y < 4294967296) : Temps p (mStep p.code (mTemps p) x).2 := by
 have hI := inAt_mem hp
 have hok := insOk (mayB_ins hm hI)
 show Temps p (if gvs (inAt p.code x.1.pc).op then upd x.2 (inAt p.code x.1.pc).d (giveV (inAt p.code x.1.pc) (x.2 (inAt p.code x.1.pc).a) (x.2 (inAt p.code x.1.pc).b) (x.1.ins.headD 0)) else x.2)
 by_cases hg : gvs (inAt p.code x.1.pc).op = true
 · rw [if_pos hg]
   have hx : 0 ≤ x.1.ins.headD 0 ∧ x.1.ins.headD 0 < 4294967296 := by
     cases h0 : x.1.ins with
     | nil => simp
     | cons y l => exact hi y (by rw [h0]; simp)
   obtain ⟨g1, g2⟩ := giveV_range (fun t => ⟨h.ge t, h.lt t⟩) h.nar hok (hn _ hI) hg hx
   refine ⟨fun t => ?_, fun t => ?_, fun t ht => ?_⟩
   · unfold upd; split
     · exact g1.1
     · exact h.ge t
   · unfold upd; split
     · exact g1.2
     · exact h.lt t
   · unfold upd; split
     · rename_i e; subst e; exact g2 ht
     · exact h.nar t ht
 · rw [if_neg hg]; exact h

end Go.Proofs.YtodmkjeankbieaaGreatDoor


namespace Go.Proofs.YtodmkjeankbieaaGreatDoor

theorem ins_fields {p : Pg} {i : In} (h : insB p i = true) (hl : 1 ≤ p.wide.length) : (0 ≤ i.a ∧ i.a < p.wide.length) ∧ (0 ≤ i.b ∧ i.b < p.wide.length) ∧ (0 ≤ i.d ∧ i.d < p.wide.length) ∧ 0 ≤ i.c := by
 rw [insB_eq] at h
 unfold insR at h
 simp only [Bool.and_eq_true] at h
 obtain ⟨⟨⟨_, h2⟩, h3⟩, _⟩ := h
 obtain ⟨⟨h2, h5⟩, h6⟩ := h2
 have hf : ∀ (b : Bool) (n : Int), fieldR p.wide b n = true → 0 ≤ n ∧ n < p.wide.length := by
   intro b n hb
   cases b with
   | true => simpa [fieldR, inB] using hb
   | false => simp [fieldR] at hb; omega
 refine ⟨hf _ _ h5, hf _ _ h6, hf _ _ h2, ?_⟩
 split at h3
 · simp [inB] at h3; omega
 · simp at h3; omega

end Go.Proofs.YtodmkjeankbieaaGreatDoor


namespace Go.Proofs.YtodmkjeankbieaaGreatDoor

theorem countP_lt {α : Type} {p q : α → Bool} : ∀ {l : List α}, (∀ x ∈ l, p x = true → q x = true) → (∃ x ∈ l, q x = true ∧ p x = false) → l.countP p < l.countP q
 | [], _, ⟨x, hx, _⟩ => by simp at hx
 | y :: l, h, ⟨x, hx, hq, hp⟩ => by
   rw [List.countP_cons, List.countP_cons]
   have hm : l.countP p ≤ l.countP q := List.countP_mono_left fun z hz => h z (List.mem_cons_of_mem _ hz)
   rcases List.mem_cons.1 hx with rfl | hx
   · rw [hq, hp]; simp; omega
   · have := countP_lt (l := l) (fun z hz => h z (List.mem_cons_of_mem _ hz)) ⟨x, hx, hq, hp⟩
     have hy := h y (by simp)
     cases hpy : p y with
     | true => rw [hy hpy]; simp; omega
     | false => cases q y <;> simp <;> omega

def cntM (L W : Nat) (M : Nat → Nat → Bool) : Nat := ((List.range L).flatMap fun k => (List.range W).map fun t => (k, t)).countP fun x => !M x.1 x.2
theorem mem_prod {L W k t : Nat} : (k, t) ∈ ((List.range L).flatMap fun k => (List.range W).map fun t => (k, t)) ↔ k < L ∧ t < W := by
 simp
theorem cnt_le {L W : Nat} {M M' : Nat → Nat → Bool} (h : ∀ k t, k < L → t < W → M k t = true → M' k t = true) : cntM L W M' ≤ cntM L W M := by
 unfold cntM
 apply List.countP_mono_left
 rintro ⟨k, t⟩ hx h1
 obtain ⟨hk, ht⟩ := mem_prod.1 hx
 simp only [Bool.not_eq_true'] at *
 cases hm : M k t with
 | false => rfl
 | true => rw [h k t hk ht hm] at h1; cases h1
theorem cnt_lt {L W : Nat} {M M' : Nat → Nat → Bool} (h : ∀ k t, k < L → t < W → M k t = true → M' k t = true) {k t : Nat} (hk : k < L) (ht : t < W) (h1 : M k t = false) (h2 : M' k t = true) : cntM L W M' < cntM L W M := by
 unfold cntM
 apply countP_lt
 · rintro ⟨k, t⟩ hx h1
   obtain ⟨hk, ht⟩ := mem_prod.1 hx
   simp only [Bool.not_eq_true'] at *
   cases hm : M k t with
   | false => rfl
   | true => rw [h k t hk ht hm] at h1; cases h1
 · exact ⟨(k, t), mem_prod.2 ⟨hk, ht⟩, by simp [h1], by simp [h2]⟩

section
variable {code : List In} {W : Nat}
structure Good (code : List In) (W : Nat) (M : Nat → Nat → Bool) : Prop where
 sound : ∀ k t, k < code.length → t < W → M k t = true → Need code t k
 grow : ∀ k t, k < code.length → t < W → M k t = true → stepM code M k t = true
theorem Good.zero : Good code W (fun _ _ => false) := ⟨fun _ _ _ _ h => by simp at h, fun _ _ _ _ h => by simp at h⟩

theorem behindM_mono {M M' : Nat → Nat → Bool} {k t : Nat} (h : ∀ m, m < code.length → M m t = true → M' m t = true) (hb : behindM code M k t = true) : behindM code M' k t = true := by
 unfold behindM at *
 rw [List.any_eq_true] at hb ⊢
 obtain ⟨m, hm, h1⟩ := hb
 refine ⟨m, hm, h m ?_ h1⟩
 unfold nx at hm
 simpa using (List.mem_filter.1 hm).2
theorem stepM_mono {M M' : Nat → Nat → Bool} {k t : Nat} (h : ∀ m, m < code.length → M m t = true → M' m t = true) (hb : stepM code M k t = true) : stepM code M' k t = true := by
 unfold stepM at *
 simp only [Bool.or_eq_true, Bool.and_eq_true] at hb ⊢
 rcases hb with hb | ⟨h1, h2⟩
 · exact Or.inl hb
 · exact Or.inr ⟨h1, behindM_mono h h2⟩

def setRow (M : Nat → Nat → Bool) (k : Nat) (r : Nat → Bool) : Nat → Nat → Bool := fun j => if j = k then r else M j
theorem setRow_same {M : Nat → Nat → Bool} {k : Nat} {r : Nat → Bool} : setRow M k r k = r := by unfold setRow; rw [if_pos rfl]
theorem setRow_ne {M : Nat → Nat → Bool} {k j : Nat} {r : Nat → Bool} (h : j ≠ k) : setRow M k r j = M j := by unfold setRow; rw [if_neg h]

structure Round (code : List In) (W : Nat) (M0 M : Nat → Nat → Bool) (ag : Bool) (k : Nat) : Prop where
 good : Good code W M
 le : ∀ j t, j < code.length → t < W → M0 j t = true → M j t = true
 same : ag = false → (∀ j t, j < code.length → t < W → M j t = M0 j t) ∧ ∀ j t, k ≤ j → j < code.length → t < W → stepM code M j t = true → M j t = true
 less : ag = true → cntM code.length W M < cntM code.length W M0
theorem Round.start {M : Nat → Nat → Bool} (h : Good code W M) : Round code W M M false code.length :=
 ⟨h, fun _ _ _ _ h => h, fun _ => ⟨fun _ _ _ _ => rfl, fun j _ h1 h2 => by omega⟩, fun h => by cases h⟩
theorem Round.step {M0 M : Nat → Nat → Bool} {ag : Bool} {k : Nat} (h : Round code W M0 M ag (k + 1)) (hk : k < code.length) {ag' : Bool} (ha : ag' = (ag || (List.range W).any fun t => stepM code M k t && !M k t)) :
   Round code W M0 (setRow M k (stepM code M k)) ag' k := by
 have hle : ∀ j t, j < code.length → t < W → M j t = true → setRow M k (stepM code M k) j t = true := by
   intro j t hj ht hm
   by_cases e : j = k
   · subst e; rw [setRow_same]; exact h.good.grow j t hj ht hm
   · rw [setRow_ne e]; exact hm
 refine ⟨⟨?_, ?_⟩, fun j t hj ht hm => hle j t hj ht (h.le j t hj ht hm), ?_, ?_⟩
 · intro j t hj ht hm
   by_cases e : j = k
   · subst e
     rw [setRow_same] at hm
     rw [need_iff]
     unfold stepM at hm
     simp only [Bool.or_eq_true, Bool.and_eq_true, Bool.not_eq_true'] at hm
     rcases hm with hm | ⟨h1, h2⟩
     · exact Or.inl hm
     · refine Or.inr ⟨h1, ?_⟩
       unfold behindM at h2
       rw [List.any_eq_true] at h2
       obtain ⟨m, hm, h2⟩ := h2
       refine ⟨m, hm, h.good.sound m t ?_ ht h2⟩
       unfold nx at hm
       simpa using (List.mem_filter.1 hm).2
   · rw [setRow_ne e] at hm
     exact h.good.sound j t hj ht hm
 · intro j t hj ht hm
   apply stepM_mono (M := M) (fun m hml h1 => hle m t hml ht h1)
   by_cases e : j = k
   · subst e; rwa [setRow_same] at hm
   · rw [setRow_ne e] at hm; exact h.good.grow j t hj ht hm
 · intro hf
   rw [hf] at ha
   have ha := ha.symm
   rw [Bool.or_eq_false_iff, List.any_eq_false] at ha
   obtain ⟨a1, a2⟩ := ha
   obtain ⟨s1, s2⟩ := h.same a1
   have hrow : ∀ t, t < W → stepM code M k t = M k t := by
     intro t ht
     have := a2 t (List.mem_range.2 ht)
     cases hs : stepM code M k t with
     | false =>
       cases hm : M k t with
       | false => rfl
       | true => rw [h.good.grow k t hk ht hm] at hs; cases hs
     | true =>
       cases hm : M k t with
       | true => rfl
       | false => rw [hs, hm] at this; simp at this
   have heq : ∀ j t, t < W → setRow M k (stepM code M k) j t = M j t := by
     intro j t ht
     by_cases e : j = k
     · subst e; rw [setRow_same]; exact hrow t ht
     · rw [setRow_ne e]
   refine ⟨fun j t hj ht => by rw [heq j t ht]; exact s1 j t hj ht, fun j t hkj hj ht hs => ?_⟩
   have hs2 : stepM code M j t = true := stepM_mono (M := setRow M k (stepM code M k)) (fun m _ h1 => by rwa [heq m t ht] at h1) hs
   rw [heq j t ht]
   by_cases e : j = k
   · subst e; rw [← hrow t ht]; exact hs2
   · exact s2 j t (by omega) hj ht hs2
 · intro ht
   rw [ht] at ha
   cases hag : ag with
   | true =>
     have := h.less hag
     have := cnt_le (L := code.length) (W := W) hle
     omega
   | false =>
     rw [hag, Bool.false_or] at ha
     have ha := ha.symm
     rw [List.any_eq_true] at ha
     obtain ⟨t, ht, h1⟩ := ha
     rw [Bool.and_eq_true, Bool.not_eq_true'] at h1
     have h2 := cnt_lt (L := code.length) (W := W) hle hk (List.mem_range.1 ht) h1.2 (by rw [setRow_same]; exact h1.1)
     have h3 := cnt_le (L := code.length) (W := W) h.le
     omega
theorem Round.done {M0 M : Nat → Nat → Bool} (h : Round code W M0 M false 0) : ∀ k t, k < code.length → t < W → M k t = needB code k t := by
 intro k t hk ht
 exact need_of_closed (M := M) (t := t) (fun j hj hm => h.good.sound j t hj ht hm) (fun j hj hs => (h.same rfl).2 j t (Nat.zero_le _) hj ht hs) k hk
end

end Go.Proofs.YtodmkjeankbieaaGreatDoor


namespace Go.Proofs.YtodmkjeankbieaaGreatDoor

section
variable {code : List In} {M : Nat → Nat → Bool}
def putN (f : Nat → Nat → Bool) (a b : Nat) : Nat → Nat → Bool :=
 if a = b then f else fun x y => if x = b ∧ y = a then true else if x = a ∧ y = b then true else f x y
theorem putN_iff (f : Nat → Nat → Bool) (a b x y : Nat) : putN f a b x y = true ↔ f x y = true ∨ (a ≠ b ∧ ((x = a ∧ y = b) ∨ (x = b ∧ y = a))) := by
 unfold putN
 by_cases h : a = b
 · simp [h]
 · rw [if_neg h]
   by_cases h1 : x = b ∧ y = a
   · simp [h1, h]
   · by_cases h2 : x = a ∧ y = b
     · simp [h2, h]
     · rw [if_neg h1, if_neg h2]
       constructor
       · exact Or.inl
       · rintro (h3 | ⟨_, h3 | h3⟩)
         · exact h3
         · exact absurd h3 h2
         · exact absurd h3 h1

def NearK (code : List In) (M : Nat → Nat → Bool) (W K : Nat) (f : Nat → Nat → Bool) : Prop :=
 ∀ x y, x < W → y < W → (f x y = true ↔ x ≠ y ∧ ∃ k, k < K ∧ (nearAt code M k x y = true ∨ nearAt code M k y x = true))
def NearT (code : List In) (M : Nat → Nat → Bool) (W K T : Nat) (f : Nat → Nat → Bool) : Prop :=
 ∀ x y, x < W → y < W → (f x y = true ↔ x ≠ y ∧ ((∃ k, k < K ∧ (nearAt code M k x y = true ∨ nearAt code M k y x = true)) ∨ (y < T ∧ nearAt code M K x y = true) ∨ (x < T ∧ nearAt code M K y x = true)))
theorem NearK.zero {W : Nat} : NearK code M W 0 (fun _ _ => false) := by
 intro x y _ _
 simp
theorem NearK.none {W K : Nat} {f : Nat → Nat → Bool} (h : NearK code M W K f) (hg : gvs (inAt code K).op = false) : NearK code M W (K + 1) f := by
 intro x y hx hy
 rw [h x y hx hy]
 have e : ∀ a b, nearAt code M K a b = false := by intro a b; unfold nearAt givesB; rw [hg]; rfl
 constructor
 · rintro ⟨h1, k, hk, h2⟩
   exact ⟨h1, k, by omega, h2⟩
 · rintro ⟨h1, k, hk, h2⟩
   refine ⟨h1, k, ?_, h2⟩
   by_cases hkk : k = K
   · subst hkk; rw [e, e] at h2; simp at h2
   · omega
theorem NearK.toT {W K : Nat} {f : Nat → Nat → Bool} (h : NearK code M W K f) : NearT code M W K 0 f := by
 intro x y hx hy
 rw [h x y hx hy]
 simp
theorem NearT.toK {W K : Nat} {f : Nat → Nat → Bool} (h : NearT code M W K W f) : NearK code M W (K + 1) f := by
 intro x y hx hy
 rw [h x y hx hy]
 constructor
 · rintro ⟨h1, ⟨k, hk, h2⟩ | ⟨_, h2⟩ | ⟨_, h2⟩⟩
   · exact ⟨h1, k, by omega, h2⟩
   · exact ⟨h1, K, by omega, Or.inl h2⟩
   · exact ⟨h1, K, by omega, Or.inr h2⟩
 · rintro ⟨h1, k, hk, h2⟩
   refine ⟨h1, ?_⟩
   by_cases hkk : k = K
   · subst hkk
     rcases h2 with h2 | h2
     · exact Or.inr (Or.inl ⟨hy, h2⟩)
     · exact Or.inr (Or.inr ⟨hx, h2⟩)
   · exact Or.inl ⟨k, by omega, h2⟩
theorem nearAt_iff {K a b : Nat} : nearAt code M K a b = true ↔ gvs (inAt code K).op = true ∧ (inAt code K).d = (a : Int) ∧ ¬ ((inAt code K).op = 2 ∧ (inAt code K).a = (b : Int)) ∧ behindM code M K b = true := by
 unfold nearAt givesB
 simp [and_assoc]
 intro _ _ _
 exact Decidable.imp_iff_not_or.symm
theorem NearT.no {W K T : Nat} {f : Nat → Nat → Bool} (h : NearT code M W K T f) (hn : ¬ (behindM code M K T = true ∧ ¬ ((inAt code K).op = 2 ∧ (inAt code K).a = (T : Int)))) : NearT code M W K (T + 1) f := by
 have e : ∀ a, ¬ nearAt code M K a T = true := fun a h => hn ⟨(nearAt_iff.1 h).2.2.2, (nearAt_iff.1 h).2.2.1⟩
 intro x y hx hy
 rw [h x y hx hy]
 refine and_congr_right fun _ => or_congr_right ?_
 constructor
 · rintro (⟨h1, h2⟩ | ⟨h1, h2⟩)
   · exact Or.inl ⟨by omega, h2⟩
   · exact Or.inr ⟨by omega, h2⟩
 · rintro (⟨h1, h2⟩ | ⟨h1, h2⟩)
   · refine Or.inl ⟨?_, h2⟩
     by_cases hy : y = T
     · subst hy; exact absurd h2 (e _)
     · omega
   · refine Or.inr ⟨?_, h2⟩
     by_cases hy : x = T
     · subst hy; exact absurd h2 (e _)
     · omega
theorem NearT.yes {W K T d : Nat} {f : Nat → Nat → Bool} (h : NearT code M W K T f) (hg : gvs (inAt code K).op = true) (hd : (inAt code K).d = (d : Int)) (hb : behindM code M K T = true) (hm : ¬ ((inAt code K).op = 2 ∧ (inAt code K).a = (T : Int))) :
   NearT code M W K (T + 1) (putN f d T) := by
 have e : nearAt code M K d T = true := nearAt_iff.2 ⟨hg, hd, hm, hb⟩
 have e2 : ∀ a b, nearAt code M K a b = true → a = d := fun a b h => by have := (nearAt_iff.1 h).2.1; omega
 intro x y hx hy
 rw [putN_iff, h x y hx hy]
 constructor
 · rintro (⟨h0, h1 | ⟨h1, h2⟩ | ⟨h1, h2⟩⟩ | ⟨h0, ⟨rfl, rfl⟩ | ⟨rfl, rfl⟩⟩)
   · exact ⟨h0, Or.inl h1⟩
   · exact ⟨h0, Or.inr (Or.inl ⟨by omega, h2⟩)⟩
   · exact ⟨h0, Or.inr (Or.inr ⟨by omega, h2⟩)⟩
   · exact ⟨h0, Or.inr (Or.inl ⟨by omega, e⟩)⟩
   · exact ⟨fun h => h0 h.symm, Or.inr (Or.inr ⟨by omega, e⟩)⟩
 · rintro ⟨h0, h1 | ⟨h1, h2⟩ | ⟨h1, h2⟩⟩
   · exact Or.inl ⟨h0, Or.inl h1⟩
   · have := e2 _ _ h2
     subst this
     by_cases hy : y = T
     · subst hy; exact Or.inr ⟨h0, Or.inl ⟨rfl, rfl⟩⟩
     · exact Or.inl ⟨h0, Or.inr (Or.inl ⟨by omega, h2⟩)⟩
   · have := e2 _ _ h2
     subst this
     by_cases hy : x = T
     · subst hy; exact Or.inr ⟨fun h => h0 h.symm, Or.inr ⟨rfl, rfl⟩⟩
     · exact Or.inl ⟨h0, Or.inr (Or.inr ⟨by omega, h2⟩)⟩

def NearA (code : List In) (M : Nat → Nat → Bool) (W A B : Nat) (f : Nat → Nat → Bool) : Prop :=
 ∀ x y, x < W → y < W → (f x y = true ↔ x ≠ y ∧ ((∃ k, k < code.length ∧ (nearAt code M k x y = true ∨ nearAt code M k y x = true)) ∨
   (M 0 x = true ∧ M 0 y = true ∧ ((x < A ∨ x = A ∧ y < B) ∨ (y < A ∨ y = A ∧ x < B)))))
theorem NearK.toA {W : Nat} {f : Nat → Nat → Bool} (h : NearK code M W code.length f) : NearA code M W 0 0 f := by
 intro x y hx hy
 rw [h x y hx hy]
 simp
theorem NearA.next {W A : Nat} {f : Nat → Nat → Bool} (h : NearA code M W A W f) : NearA code M W (A + 1) 0 f := by
 intro x y hx hy
 rw [h x y hx hy]
 refine and_congr_right fun _ => or_congr_right ?_
 refine and_congr_right fun _ => and_congr_right fun _ => ?_
 omega
theorem NearA.no {W A B : Nat} {f : Nat → Nat → Bool} (h : NearA code M W A B f) (hn : ¬ (M 0 A = true ∧ M 0 B = true)) : NearA code M W A (B + 1) f := by
 intro x y hx hy
 rw [h x y hx hy]
 refine and_congr_right fun _ => or_congr_right ?_
 constructor
 · rintro ⟨h1, h2, h3⟩; exact ⟨h1, h2, by omega⟩
 · rintro ⟨h1, h2, h3⟩
   refine ⟨h1, h2, ?_⟩
   by_cases h4 : x = A ∧ y = B
   · obtain ⟨rfl, rfl⟩ := h4; exact absurd ⟨h1, h2⟩ hn
   · by_cases h5 : y = A ∧ x = B
     · obtain ⟨rfl, rfl⟩ := h5; exact absurd ⟨h2, h1⟩ hn
     · omega
theorem NearA.yes {W A B : Nat} {f : Nat → Nat → Bool} (h : NearA code M W A B f) (ha : M 0 A = true) (hb : M 0 B = true) : NearA code M W A (B + 1) (putN f A B) := by
 intro x y hx hy
 rw [putN_iff, h x y hx hy]
 constructor
 · rintro (⟨h0, h1 | ⟨h1, h2, h3⟩⟩ | ⟨h0, ⟨rfl, rfl⟩ | ⟨rfl, rfl⟩⟩)
   · exact ⟨h0, Or.inl h1⟩
   · exact ⟨h0, Or.inr ⟨h1, h2, by omega⟩⟩
   · exact ⟨h0, Or.inr ⟨ha, hb, by omega⟩⟩
   · exact ⟨fun h => h0 h.symm, Or.inr ⟨hb, ha, by omega⟩⟩
 · rintro ⟨h0, h1 | ⟨h1, h2, h3⟩⟩
   · exact Or.inl ⟨h0, Or.inl h1⟩
   · by_cases h4 : x = A ∧ y = B
     · exact Or.inr ⟨by omega, Or.inl h4⟩
     · by_cases h5 : y = A ∧ x = B
       · exact Or.inr ⟨by omega, Or.inr ⟨h5.2, h5.1⟩⟩
       · exact Or.inl ⟨h0, Or.inr ⟨h1, h2, by omega⟩⟩
theorem NearA.all {W : Nat} {f : Nat → Nat → Bool} (h : NearA code (needB code) W W 0 f) {x y : Nat} (hx : x < W) (hy : y < W) : f x y = nearB code x y := by
 rw [Bool.eq_iff_iff, h x y hx hy]
 unfold nearB
 simp only [Bool.and_eq_true, decide_eq_true_eq, Bool.or_eq_true, List.any_eq_true, List.mem_range]
 refine and_congr_right fun _ => ?_
 constructor
 · rintro (⟨k, h1, h2⟩ | ⟨h1, h2, _⟩)
   · exact Or.inr ⟨k, h1, h2⟩
   · exact Or.inl ⟨h1, h2⟩
 · rintro (⟨h1, h2⟩ | ⟨k, h1, h2⟩)
   · exact Or.inr ⟨h1, h2, Or.inl (Or.inl hx)⟩
   · exact Or.inl ⟨k, h1, h2⟩
end
end Go.Proofs.YtodmkjeankbieaaGreatDoor


namespace Go.Proofs.YtodmkjeankbieaaGreatDoor

def regAt (regs : List PlaceV) (t : Int) : PlaceV := regs.getD t.toNat ⟨0, 0⟩
def scr (wide : List Bool) (sg t j : Int) : PlaceV := if wd wide t then ⟨2, sg / 2 - 1 - j⟩ else ⟨1, sg - 2 - 2 * j⟩
def slotP (t : Int) : PlaceV := ⟨3, t⟩
def home (regs : List PlaceV) (t : Int) : PlaceV := if (regAt regs t).k ≠ 0 then regAt regs t else slotP t
def takeP (wide : List Bool) (sg : Int) (regs : List PlaceV) (t j : Int) : PlaceV := if (regAt regs t).k ≠ 0 then regAt regs t else scr wide sg t j
def takeM (wide : List Bool) (sg : Int) (regs : List PlaceV) (kn : Int → Option Nat) (t j : Int) : List Mv :=
 if (regAt regs t).k ≠ 0 then [] else [match kn t with | none => ⟨scr wide sg t j, slotP t, false, 0⟩ | some n => ⟨scr wide sg t j, ⟨0, 0⟩, true, n⟩]
def destP (wide : List Bool) (sg : Int) (regs : List PlaceV) (i : In) : PlaceV := if gvs i.op then takeP wide sg regs i.d 0 else ⟨0, 0⟩
def afterM (wide : List Bool) (sg : Int) (regs : List PlaceV) (i : In) : List Mv :=
 if gvs i.op = true ∧ (regAt regs i.d).k = 0 then [⟨slotP i.d, destP wide sg regs i, false, 0⟩] else []
def rowF (wide : List Bool) (sg : Int) (regs : List PlaceV) (kn : Int → Option Nat) (i : In) : Rw where
 d := destP wide sg regs i
 a := if 0 < many i.op then takeP wide sg regs i.a 0 else ⟨0, 0⟩
 b := if 1 < many i.op then takeP wide sg regs i.b 1 else ⟨0, 0⟩
 before := (if 0 < many i.op then takeM wide sg regs kn i.a 0 else []) ++ (if 1 < many i.op then takeM wide sg regs kn i.b 1 else [])
 after := afterM wide sg regs i
def rowsF (p : Pg) (sg : Int) (regs : List PlaceV) (kn : Nat → Int → Option Nat) : List Rw := (List.range p.code.length).map fun k => rowF p.wide sg regs (kn k) (inAt p.code k)
def placedF (p : Pg) (sg : Int) (regs : List PlaceV) (kn : Nat → Int → Option Nat) : Pd := ⟨p.wide.length, rowsF p sg regs kn⟩

structure ColOk (p : Pg) (sg : Int) (regs : List PlaceV) : Prop where
 len : regs.length = p.wide.length
 reg : ∀ t : Nat, t < p.wide.length → (regAt regs t).k ≠ 0 → IsReg p sg 0 t (regAt regs t)
 zero : ∀ t : Nat, t < p.wide.length → (regAt regs t).k = 0 → regAt regs t = ⟨0, 0⟩
 apart : ∀ a b : Nat, a < p.wide.length → b < p.wide.length → nearB p.code a b = true → (regAt regs a).k ≠ 0 → (regAt regs b).k ≠ 0 → ovP (regAt regs a) (regAt regs b) = false

section
variable {p : Pg} {sg : Int} {regs : List PlaceV}

theorem isB_more {sg sl sg' sl' : Int} {a : PlaceV} (h : isB sg sl a = true) (h1 : sg ≤ sg') (h2 : sl ≤ sl') : isB sg' sl' a = true := by
 unfold isB at *
 have h := of_decide_eq_true h
 apply decide_eq_true
 split at h
 · rw [if_pos ‹_›]; omega
 · rw [if_neg ‹_›]
   split at h
   · rw [if_pos ‹_›]; omega
   · rw [if_neg ‹_›]
     split at h
     · rw [if_pos ‹_›]; omega
     · omega
theorem scr_reg (h4 : 4 ≤ sg) (sl t j : Int) (hj : j = 0 ∨ j = 1) : IsReg p sg sl t (scr p.wide sg t j) := by
 unfold IsReg scr isB
 cases wd p.wide t with
 | true => simp; omega
 | false => simp; omega
theorem slot_isB {sl t : Int} (h : 0 ≤ t ∧ t < sl) : isB sg sl (slotP t) = true := by
 unfold isB slotP; simp; exact h

theorem home_scr (h2 : sg % 2 = 0) (hc : ColOk p (sg - 4) regs) {t : Nat} (ht : t < p.wide.length) (u j : Int) (hj : j = 0 ∨ j = 1) : ovP (home regs t) (scr p.wide sg u j) = false := by
 unfold home
 by_cases h0 : (regAt regs t).k ≠ 0
 · rw [if_pos h0]
   obtain ⟨hk, hb⟩ := hc.reg t ht h0
   generalize regAt regs t = a at *
   obtain ⟨k, n⟩ := a
   simp only at hk
   subst hk
   unfold isB at hb
   have hb := of_decide_eq_true hb
   unfold ovP scr
   cases h : wd p.wide (t : Int) <;> cases h' : wd p.wide u <;> simp [h] at hb ⊢ <;> omega
 · rw [if_neg h0]
   unfold ovP scr slotP
   cases h' : wd p.wide u <;> simp
theorem scr_scr (h2 : sg % 2 = 0) (t u : Int) : ovP (scr p.wide sg t 0) (scr p.wide sg u 1) = false := by
 unfold ovP scr
 cases wd p.wide t <;> cases wd p.wide u <;> simp <;> omega

theorem move_keep {s : FS} {m : Mv} {f : Fc} (h : s f) (ho : ovP f.pl m.to = false) (ht : f.t ≠ -1) : moveF p s m f := Or.inl ⟨h, Or.inr ho, Or.inr ht⟩
theorem move_has {s : FS} {m : Mv} {t : Int} (hc : m.c = false) (h : s (hasF m.fr t)) (hm : mayT p.wide m.to.k t = true) : moveF p s m (hasF m.to t) :=
 Or.inr (Or.inr (Or.inr ⟨hc, _, h, rfl, Or.inl ⟨rfl, hm, rfl⟩⟩))
theorem mayT_scr (t j : Int) : mayT p.wide (scr p.wide sg t j).k t = true := by
 unfold mayT scr
 cases wd p.wide t <;> simp
theorem mayT_slot (t : Int) : mayT p.wide (slotP t).k t = true := by unfold mayT slotP; simp

def Ys (p : Pg) (regs : List PlaceV) (k : Nat) : FS := fun f => ∃ t : Nat, t < p.wide.length ∧ needB p.code k t = true ∧ f = hasF (home regs t) t

theorem inAt_rows {l : Pd} {kn : Nat → Int → Option Nat} (hl : l = placedF p sg regs kn) {k : Nat} (hk : k < p.code.length) : rwAt l.rows k = rowF p.wide sg regs (kn k) (inAt p.code k) := by
 subst hl
 unfold placedF rowsF
 rw [rwAt_get (by simpa using hk)]
 simp

def noKn : Nat → Int → Option Nat := fun _ _ => none

theorem before_ok (h2 : sg % 2 = 0) (hc : ColOk p (sg - 4) regs) {i : In} (hi : InsOk p i) {s : FS} (ha : 0 < many i.op → s (hasF (home regs i.a) i.a)) (hb : 1 < many i.op → s (hasF (home regs i.b) i.b)) :
   (∀ t : Nat, t < p.wide.length → s (hasF (home regs t) t) → movesF p s (rowF p.wide sg regs (noKn 0) i).before (hasF (home regs t) t)) ∧ tookF p s i (rowF p.wide sg regs (noKn 0) i) := by
 have keep1 : ∀ (s : FS) (u j : Int) (hj : j = 0 ∨ j = 1) (t : Nat), t < p.wide.length → s (hasF (home regs t) t) → movesF p s (takeM p.wide sg regs (noKn 0) u j) (hasF (home regs t) t) := by
   intro s u j hj t ht hs
   unfold takeM
   split
   · exact hs
   · exact move_keep hs (home_scr h2 hc ht u j hj) (by show (t : Int) ≠ -1; omega)
 have app : ∀ (s : FS) (l l' : List Mv), movesF p s (l ++ l') = movesF p (movesF p s l) l' := fun s l l' => List.foldl_append
 have toA : ∀ x, tempIn p x → ∃ t : Nat, t < p.wide.length ∧ x = (t : Int) := fun x hx => ⟨x.toNat, by have := hx.1; have := hx.2; omega, by have := hx.1; omega⟩
 have take1 : ∀ (s : FS) (u j : Int), s (hasF (home regs u) u) → movesF p s (takeM p.wide sg regs (noKn 0) u j) (hasF (takeP p.wide sg regs u j) u) := by
   intro s u j hs
   unfold takeM takeP home at *
   by_cases h0 : (regAt regs u).k ≠ 0
   · rw [if_pos h0] at hs
     rw [if_pos h0, if_pos h0]
     exact hs
   · rw [if_neg h0] at hs
     rw [if_neg h0, if_neg h0]
     exact move_has (m := ⟨scr p.wide sg u j, slotP u, false, 0⟩) rfl hs (mayT_scr u j)
 refine ⟨fun t ht hs => ?_, fun hm => ?_, fun hm => ?_⟩
 · unfold rowF
   simp only
   rw [app]
   have h1 : movesF p s (if 0 < many i.op then takeM p.wide sg regs (noKn 0) i.a 0 else []) (hasF (home regs t) t) := by
     by_cases h : 0 < many i.op
     · rw [if_pos h]; exact keep1 s _ 0 (Or.inl rfl) t ht hs
     · rw [if_neg h]; exact hs
   generalize movesF p s (if 0 < many i.op then takeM p.wide sg regs (noKn 0) i.a 0 else []) = s1 at *
   by_cases h : 1 < many i.op
   · rw [if_pos h]; exact keep1 _ _ 1 (Or.inr rfl) t ht h1
   · rw [if_neg h]; exact h1
 · unfold rowF
   simp only
   rw [if_pos hm, if_pos hm, app]
   have h1 := take1 s i.a 0 (ha hm)
   generalize movesF p s (takeM p.wide sg regs (noKn 0) i.a 0) = s1 at *
   by_cases h : 1 < many i.op
   · rw [if_pos h]
     unfold takeM
     by_cases h0 : (regAt regs i.b).k ≠ 0
     · rw [if_pos h0]; exact h1
     · rw [if_neg h0]
       refine move_keep (m := ⟨scr p.wide sg i.b 1, slotP i.b, false, 0⟩) h1 ?_ ?_
       · show ovP (takeP p.wide sg regs i.a 0) (scr p.wide sg i.b 1) = false
         unfold takeP
         by_cases h0 : (regAt regs i.a).k ≠ 0
         · rw [if_pos h0]
           obtain ⟨t, ht, e⟩ := toA _ (hi.a hm)
           have := home_scr h2 hc ht i.b 1 (Or.inr rfl)
           unfold home at this
           rw [e] at h0 ⊢
           rwa [if_pos h0] at this
         · rw [if_neg h0]; exact scr_scr h2 _ _
       · show i.a ≠ -1
         have := (hi.a hm).1; omega
   · rw [if_neg h]; exact h1
 · unfold rowF
   simp only
   rw [if_pos hm, if_pos (by omega), if_pos hm, app]
   apply take1
   obtain ⟨t, ht, e⟩ := toA _ (hi.b hm)
   have := hb hm
   rw [e] at this ⊢
   exact keep1 s _ 0 (Or.inl rfl) t ht this

theorem needB_of_takes {code : List In} {k : Nat} {t : Nat} (h : takesB (inAt code k) t = true) : needB code k t = true := by
 rw [needB_step]; unfold stepM; rw [h]; rfl
theorem needB_of_behind {code : List In} {k m t : Nat} (hm : m ∈ nx code k) (h : needB code m t = true) (hg : givesB (inAt code k) t = false) : needB code k t = true := by
 rw [needB_step]; unfold stepM behindM
 rw [hg]
 simp only [Bool.not_false, Bool.true_and, Bool.or_eq_true, List.any_eq_true]
 exact Or.inr ⟨m, hm, h⟩
theorem takes_a {i : In} {t : Nat} (h : 0 < many i.op) (e : i.a = (t : Int)) : takesB i t = true := by
 unfold takesB uses
 rw [List.contains_iff_mem, e]
 have : many i.op = 1 ∨ many i.op = 2 := by unfold many at *; split at h <;> (try split at h) <;> simp_all
 rcases this with h | h <;> rw [h] <;> simp
theorem takes_b {i : In} {t : Nat} (h : 1 < many i.op) (e : i.b = (t : Int)) : takesB i t = true := by
 unfold takesB uses
 rw [List.contains_iff_mem, e]
 have : many i.op = 2 := by unfold many at *; split at h <;> (try split at h) <;> simp_all
 rw [this]; simp

theorem home_isB (hc : ColOk p (sg - 4) regs) {t : Nat} (ht : t < p.wide.length) : isB sg (p.wide.length : Int) (home regs t) = true ∧ mayT p.wide (home regs t).k t = true := by
 unfold home
 by_cases h0 : (regAt regs t).k ≠ 0
 · rw [if_pos h0]
   obtain ⟨hk, hb⟩ := hc.reg t ht h0
   refine ⟨isB_more hb (by omega) (by omega), ?_⟩
   unfold mayT
   rw [hk]
   cases wd p.wide (t : Int) <;> simp
 · rw [if_neg h0]
   exact ⟨slot_isB (by omega), mayT_slot _⟩
theorem ovP_reg_eq {a b : PlaceV} (h : ovP a b = true) (hk : a.k = b.k) : a = b := by
 unfold ovP at h
 split at h
 · omega
 · split at h
   · omega
   · have := of_decide_eq_true h
     obtain ⟨ak, an⟩ := a
     obtain ⟨bk, bn⟩ := b
     simp only at this
     rw [this.1, this.2]
theorem home_slot {t : Nat} {d : Int} (hne : (t : Int) ≠ d) (hr : (regAt regs t).k ≠ 3) : ovP (home regs t) (slotP d) = false := by
 unfold home
 by_cases h0 : (regAt regs t).k ≠ 0
 · rw [if_pos h0]
   unfold ovP slotP
   simp [hr]
 · rw [if_neg h0]
   unfold ovP slotP
   simp [hne]

theorem ys_sol (hm : mayB p = true) (h4 : 4 ≤ sg) (h2 : sg % 2 = 0) (hc : ColOk p (sg - 4) regs) {l : Pd} (hl : l = placedF p sg regs noKn) :
   IsSol p sg l (Ys p regs) ∧ ∀ k, Come p.code k → tookF p (Ys p regs k) (inAt p.code k) (rwAt l.rows k) := by
 have hlen := mayB_len hm
 have toA : ∀ x, tempIn p x → ∃ t : Nat, t < p.wide.length ∧ x = (t : Int) := fun x hx => ⟨x.toNat, by have := hx.1; have := hx.2; omega, by have := hx.1; omega⟩
 have hreg3 : ∀ t : Nat, t < p.wide.length → (regAt regs t).k ≠ 3 := by
   intro t ht h3
   obtain ⟨hk, _⟩ := hc.reg t ht (by omega)
   rw [hk] at h3
   split at h3 <;> omega
 have hmid : ∀ k, Come p.code k → (∀ t : Nat, t < p.wide.length → Ys p regs k (hasF (home regs t) t) → movesF p (Ys p regs k) (rowF p.wide sg regs (noKn 0) (inAt p.code k)).before (hasF (home regs t) t)) ∧
     tookF p (Ys p regs k) (inAt p.code k) (rowF p.wide sg regs (noKn 0) (inAt p.code k)) := by
   intro k hk
   have hkl := hk.lt (by omega)
   have hi := insOk (mayB_ins hm (inAt_mem hkl))
   refine before_ok h2 hc hi (fun hg => ?_) (fun hg => ?_)
   · obtain ⟨t, ht, e⟩ := toA _ (hi.a hg)
     exact ⟨t, ht, needB_of_takes (takes_a hg e), by rw [e]⟩
   · obtain ⟨t, ht, e⟩ := toA _ (hi.b hg)
     exact ⟨t, ht, needB_of_takes (takes_b hg e), by rw [e]⟩
 refine ⟨⟨?_, ?_⟩, ?_⟩
 · rintro f ⟨t, ht, _, rfl⟩
   obtain ⟨b1, b2⟩ := home_isB (sg := sg) hc ht
   refine ⟨Or.inr (Or.inl ⟨?_, rfl, rfl, ⟨by show (0 : Int) ≤ t; omega, by show (t : Int) < _; omega⟩, b2⟩), rfl⟩
   subst hl
   exact b1
 · rintro k hk m hmk f ⟨t, ht, hnd, rfl⟩
   have hkl := hk.lt (by omega)
   have hi := insOk (mayB_ins hm (inAt_mem hkl))
   obtain ⟨q1, _⟩ := hmid k hk
   rw [inAt_rows hl hkl]
   generalize hI : inAt p.code k = i at *
   unfold thruF
   by_cases hg : gvs i.op = true
   · obtain ⟨d, hd, ed⟩ := toA _ (hi.d hg)
     by_cases htd : t = d
     · -- it is what is given
       subst htd
       have h1 : insF (movesF p (Ys p regs k) (rowF p.wide sg regs (noKn k) i).before) i (rowF p.wide sg regs (noKn k) i).d (hasF (destP p.wide sg regs i) t) := by
         unfold insF
         rw [if_pos hg, ← ed]
         exact Or.inr (Or.inr (Or.inr rfl))
       show movesF p _ (afterM p.wide sg regs i) (hasF (home regs t) t)
       unfold afterM
       by_cases h0 : (regAt regs i.d).k = 0
       · rw [if_pos ⟨hg, h0⟩]
         have e : home regs (t : Int) = slotP i.d := by unfold home; rw [← ed, if_neg (by simpa using h0)]
         rw [e]
         exact move_has (m := ⟨slotP i.d, destP p.wide sg regs i, false, 0⟩) rfl h1 (by rw [ed]; exact mayT_slot _)
       · rw [if_neg (fun h => h0 h.2)]
         have e : home regs (t : Int) = destP p.wide sg regs i := by unfold home destP takeP; rw [if_pos hg, ← ed, if_pos h0, if_pos h0]
         rw [e]
         exact h1
     · have hng : givesB i t = false := by
         unfold givesB
         rw [ed]
         simp
         intro _; omega
       have hnk : needB p.code k t = true := needB_of_behind hmk hnd (by rw [hI]; exact hng)
       have hs := q1 t ht ⟨t, ht, hnk, rfl⟩
       have hbeh : behindM p.code (needB p.code) k t = true := by
         unfold behindM
         rw [List.any_eq_true]
         exact ⟨m, hmk, hnd⟩
       have h1 : insF (movesF p (Ys p regs k) (rowF p.wide sg regs (noKn k) i).before) i (rowF p.wide sg regs (noKn k) i).d (hasF (home regs t) t) := by
         unfold insF
         rw [if_pos hg]
         show giveF _ i (destP p.wide sg regs i) _
         by_cases hov : ovP (home regs t) (destP p.wide sg regs i) = false
         · exact Or.inl ⟨hs, Or.inr hov, Or.inr (by show (t : Int) ≠ i.d; omega)⟩
         · have hov : ovP (home regs t) (destP p.wide sg regs i) = true := by simpa using hov
           unfold destP takeP at hov
           rw [if_pos hg] at hov
           by_cases h0 : (regAt regs i.d).k ≠ 0
           · rw [if_pos h0] at hov
             by_cases hrt : (regAt regs t).k ≠ 0
             · have eh : home regs (t : Int) = regAt regs t := by unfold home; rw [if_pos hrt]
               rw [eh] at hov ⊢
               by_cases hmv : i.op = 2 ∧ i.a = (t : Int)
               · -- a move of this one
                 have hk2 : (regAt regs t).k = (regAt regs i.d).k := by
                   have r1 := (hc.reg t ht hrt).1
                   have r2 := (hc.reg d hd (by rw [← ed]; exact h0)).1
                   rw [← ed] at r2
                   rw [r1, r2, hi.w2 hmv.1, hmv.2]
                 have e := ovP_reg_eq hov hk2
                 refine Or.inr (Or.inr (Or.inl ⟨hmv.1, Or.inr ?_⟩))
                 rw [e, hmv.2]
                 unfold destP takeP
                 rw [if_pos hg, if_pos h0]
               · exfalso
                 have hnear : nearB p.code t d = true := by
                   unfold nearB
                   simp only [Bool.and_eq_true, decide_eq_true_eq, Bool.or_eq_true, List.any_eq_true, List.mem_range]
                   refine ⟨htd, Or.inr ⟨k, hkl, Or.inr ?_⟩⟩
                   unfold nearAt
                   rw [hI, hbeh]
                   have hgd : givesB i d = true := by unfold givesB; rw [hg, ed]; simp
                   rw [hgd]
                   have hx : (decide (i.op = 2) && decide (i.a = (t : Int))) = false := by
                     rw [Bool.eq_false_iff]
                     intro h
                     simp at h
                     exact hmv h
                   rw [hx]; rfl
                 have := hc.apart t d ht hd hnear hrt (by rw [← ed]; exact h0)
                 rw [← ed] at this
                 rw [this] at hov
                 cases hov
             · exfalso
               have eh : home regs (t : Int) = slotP t := by unfold home; rw [if_neg hrt]
               rw [eh] at hov
               have r3 := hreg3 d hd
               rw [← ed] at r3
               unfold ovP slotP at hov
               simp at hov
               exact r3 hov.1.symm
           · rw [if_neg h0, home_scr h2 hc ht i.d 0 (Or.inl rfl)] at hov
             cases hov
       show movesF p _ (afterM p.wide sg regs i) (hasF (home regs t) t)
       unfold afterM
       split
       · exact move_keep h1 (home_slot (by omega) (hreg3 t ht)) (by show (t : Int) ≠ -1; omega)
       · exact h1
   · have hng : givesB i t = false := by unfold givesB; simp [hg]
     have hnk : needB p.code k t = true := needB_of_behind hmk hnd (by rw [hI]; exact hng)
     have hs := q1 t ht ⟨t, ht, hnk, rfl⟩
     show movesF p _ (afterM p.wide sg regs i) (hasF (home regs t) t)
     unfold afterM insF
     rw [if_neg hg, if_neg (fun h => hg h.1)]
     exact hs
 · intro k hk
   have hkl := hk.lt (by omega)
   rw [inAt_rows hl hkl]
   exact (hmid k hk).2

theorem build_taken (hm : mayB p = true) (h4 : 4 ≤ sg) (h2 : sg % 2 = 0) (hc : ColOk p (sg - 4) regs) : Taken p sg (placedF p sg regs noKn) := by
 obtain ⟨h1, h3⟩ := ys_sol hm h4 h2 hc rfl
 exact taken_of_sol h1 h3

theorem takeP_reg (h4 : 4 ≤ sg) (hc : ColOk p (sg - 4) regs) {x : Int} (hx : tempIn p x) (j : Int) (hj : j = 0 ∨ j = 1) (sl : Int) (hs : 0 ≤ sl) : IsReg p sg sl x (takeP p.wide sg regs x j) := by
 unfold takeP
 by_cases h0 : (regAt regs x).k ≠ 0
 · rw [if_pos h0]
   obtain ⟨t, ht, rfl⟩ : ∃ t : Nat, t < p.wide.length ∧ x = (t : Int) := ⟨x.toNat, by have := hx.1; have := hx.2; omega, by have := hx.1; omega⟩
   obtain ⟨hk, hb⟩ := hc.reg t ht h0
   exact ⟨hk, isB_more hb (by omega) hs⟩
 · rw [if_neg h0]
   exact scr_reg h4 sl x j hj
theorem plB_reg {wide : List Bool} {sg sl : Int} {l : UInt8} {t : Int} {a : PlaceV} (hl : decide (l = 45) = false) (hr : a.k = (if wd wide t then 2 else 1) ∧ isB sg sl a = true) : plB wide sg sl l t a = true := by
 have hl := of_decide_eq_false hl
 unfold plB kindV
 rw [if_neg hl, hr.2]
 obtain ⟨h1, _⟩ := hr
 cases hw : wd wide t <;> rw [hw] at h1 <;> simp at h1 <;> simp [h1]
theorem plB_none {wide : List Bool} {sg sl : Int} {l : UInt8} {t : Int} (hl : decide (l = 45) = true) : plB wide sg sl l t ⟨0, 0⟩ = true := by
 have hl := of_decide_eq_true hl
 unfold plB kindV
 rw [if_pos hl]; simp
theorem mv_scr (h4 : 4 ≤ sg) {sl x j : Int} (hx : 0 ≤ x ∧ x < sl) (hj : j = 0 ∨ j = 1) : mvB sg sl ⟨scr p.wide sg x j, slotP x, false, 0⟩ = true := by
 have h1 := scr_reg (p := p) h4 sl x j hj
 have h3 : (scr p.wide sg x j).k ≠ 3 := by rw [h1.1]; split <;> omega
 unfold mvB
 simp only [h1.2, slot_isB hx]
 simp [slotP, h3]
theorem takeM_ok (h4 : 4 ≤ sg) {sl x j : Int} (hx : 0 ≤ x ∧ x < sl) (hj : j = 0 ∨ j = 1) : (takeM p.wide sg regs (noKn 0) x j).all (mvB sg sl) = true ∧ (takeM p.wide sg regs (noKn 0) x j).length ≤ 1 := by
 unfold takeM
 by_cases h0 : (regAt regs x).k ≠ 0
 · rw [if_pos h0]; simp
 · rw [if_neg h0]
   have := mv_scr (p := p) h4 hx hj
   simp [noKn, this]
theorem row_may (h4 : 4 ≤ sg) (hc : ColOk p (sg - 4) regs) {i : In} (hi : InsOk p i) : rwB p sg p.wide.length i (rowF p.wide sg regs (noKn 0) i) = true := by
 obtain ⟨s0, s1, s2⟩ := shape_there hi.kn
 have hsl : (0 : Int) ≤ p.wide.length := by omega
 unfold rwB
 simp only [Bool.and_eq_true]
 refine ⟨⟨⟨?_, ?_⟩, ?_⟩, ⟨?_, ?_⟩, ?_⟩
 · show plB _ _ _ _ _ (destP p.wide sg regs i) = true
   unfold destP
   by_cases hg : gvs i.op = true
   · rw [if_pos hg]
     exact plB_reg (by rw [s0, hg]; rfl) (takeP_reg h4 hc (hi.d hg) 0 (Or.inl rfl) _ hsl)
   · rw [if_neg hg]
     exact plB_none (by rw [s0]; simpa using hg)
 · show plB _ _ _ _ _ (if 0 < many i.op then takeP p.wide sg regs i.a 0 else ⟨0, 0⟩) = true
   by_cases hg : 0 < many i.op
   · rw [if_pos hg]
     exact plB_reg (by rw [s1, decide_eq_true hg]; rfl) (takeP_reg h4 hc (hi.a hg) 0 (Or.inl rfl) _ hsl)
   · rw [if_neg hg]
     exact plB_none (by rw [s1, decide_eq_false hg]; rfl)
 · show plB _ _ _ _ _ (if 1 < many i.op then takeP p.wide sg regs i.b 1 else ⟨0, 0⟩) = true
   by_cases hg : 1 < many i.op
   · rw [if_pos hg]
     exact plB_reg (by rw [s2, decide_eq_true hg]; rfl) (takeP_reg h4 hc (hi.b hg) 1 (Or.inr rfl) _ hsl)
   · rw [if_neg hg]
     exact plB_none (by rw [s2, decide_eq_false hg]; rfl)
 · unfold rowF mvsB
   simp only [List.all_append, List.length_append, Bool.and_eq_true, decide_eq_true_eq]
   have ha : (if 0 < many i.op then takeM p.wide sg regs (noKn 0) i.a 0 else []).all (mvB sg p.wide.length) = true ∧ (if 0 < many i.op then takeM p.wide sg regs (noKn 0) i.a 0 else []).length ≤ 1 := by
     by_cases hg : 0 < many i.op
     · rw [if_pos hg]; exact takeM_ok h4 (hi.a hg) (Or.inl rfl)
     · rw [if_neg hg]; simp
   have hb : (if 1 < many i.op then takeM p.wide sg regs (noKn 0) i.b 1 else []).all (mvB sg p.wide.length) = true ∧ (if 1 < many i.op then takeM p.wide sg regs (noKn 0) i.b 1 else []).length ≤ 1 := by
     by_cases hg : 1 < many i.op
     · rw [if_pos hg]; exact takeM_ok h4 (hi.b hg) (Or.inr rfl)
     · rw [if_neg hg]; simp
   exact ⟨⟨ha.1, hb.1⟩, by omega⟩
 · show mvsB sg _ (afterM p.wide sg regs i) = true
   unfold afterM mvsB
   by_cases hg : gvs i.op = true ∧ (regAt regs i.d).k = 0
   · rw [if_pos hg]
     have h1 := takeP_reg h4 hc (hi.d hg.1) 0 (Or.inl rfl) (p.wide.length : Int) hsl
     have e : destP p.wide sg regs i = takeP p.wide sg regs i.d 0 := by unfold destP; rw [if_pos hg.1]
     have h3 : (takeP p.wide sg regs i.d 0).k ≠ 3 := by rw [h1.1]; split <;> omega
     have hs := slot_isB (sg := sg) (hi.d hg.1)
     rw [e]
     simp only [List.all_cons, List.all_nil, Bool.and_true, List.length_singleton]
     unfold mvB
     simp only [h1.2, hs]
     simp [slotP, h3]
     exact decide_eq_false (fun h => h3 h.symm)
   · rw [if_neg hg]; simp
 · show (!decide (8 ≤ i.op ∧ i.op ≤ 10) || decide ((afterM p.wide sg regs i).length = 0)) = true
   by_cases hj : 8 ≤ i.op ∧ i.op ≤ 10
   · have hg : ¬ gvs i.op = true := by unfold gvs; simp; omega
     unfold afterM
     rw [if_neg (fun h => hg h.1)]; simp
   · rw [decide_eq_false hj]; rfl

theorem build_may (hm : mayB p = true) (ht : tgB sg = true) (hc : ColOk p (sg - 4) regs) : mayL p sg (placedF p sg regs noKn) = true := by
 obtain ⟨l1, l2, l3, l4⟩ := mayB_len hm
 obtain ⟨t1, t2, t3⟩ := tg_facts ht
 unfold mayL
 simp only [Bool.and_eq_true]
 refine ⟨⟨⟨⟨⟨hm, ht⟩, ?_⟩, ?_⟩, ?_⟩, ?_⟩
 · unfold placedF; simp
 · unfold placedF; simp; omega
 · unfold placedF rowsF; simp
 · rw [List.all_eq_true]
   intro x hx
   obtain ⟨k, hk, rfl⟩ := List.mem_iff_getElem.1 hx
   have hk1 : k < p.code.length := by simp at hk; omega
   have e : (placedF p sg regs noKn).rows = rowsF p sg regs noKn := rfl
   simp only [List.getElem_zip]
   have h2 : (placedF p sg regs noKn).rows[k]'(by rw [e]; unfold rowsF; simpa using hk1) = rowF p.wide sg regs (noKn 0) p.code[k] := by
     simp only [e, rowsF, List.getElem_map, List.getElem_range, inAt_get hk1]
     rfl
   rw [h2]
   exact row_may t1 hc (insOk (mayB_ins hm (List.getElem_mem hk1)))
end

end Go.Proofs.YtodmkjeankbieaaGreatDoor


namespace Go.Proofs.YtodmkjeankbieaaGreatDoor

structure ColAt (p : Pg) (sg : Int) (o : Nat → PlaceV) : Prop where
 reg : ∀ t, t < p.wide.length → o t = ⟨0, 0⟩ ∨ IsReg p sg 0 t (o t)
 apart : ∀ a b, a < p.wide.length → b < p.wide.length → nearB p.code a b = true → (o a).k ≠ 0 → (o b).k ≠ 0 → ovP (o a) (o b) = false
def updP (o : Nat → PlaceV) (t : Nat) (a : PlaceV) : Nat → PlaceV := fun x => if x = t then a else o x
theorem ColAt.zero (p : Pg) (sg : Int) : ColAt p sg (fun _ => ⟨0, 0⟩) := ⟨fun _ _ => Or.inl rfl, fun _ _ _ _ _ h => absurd rfl h⟩
noncomputable def freeTo (p : Pg) (o : Nat → PlaceV) (t : Nat) (a : PlaceV) (u : Nat) : Bool := (List.range u).all fun x => !nearB p.code t x || decide ((o x).k = 0) || !ovP a (o x)
theorem freeTo_s {p : Pg} {o : Nat → PlaceV} {t u : Nat} {a : PlaceV} : freeTo p o t a (u + 1) = (freeTo p o t a u && (!nearB p.code t u || decide ((o u).k = 0) || !ovP a (o u))) := by
 unfold freeTo
 rw [List.range_succ, List.all_append]
 simp
theorem ColAt.put {p : Pg} {sg : Int} {o : Nat → PlaceV} {t : Nat} {a : PlaceV} (h : ColAt p sg o) (hr : IsReg p sg 0 t a) (hf : freeTo p o t a p.wide.length = true) : ColAt p sg (updP o t a) := by
 have hfr : ∀ x, x < p.wide.length → nearB p.code t x = true → (o x).k ≠ 0 → ovP a (o x) = false := by
   intro x hx hn hk
   unfold freeTo at hf
   have := List.all_eq_true.1 hf x (List.mem_range.2 hx)
   rw [hn] at this
   simpa [hk] using this
 refine ⟨fun x hx => ?_, fun x y hx hy hn h1 h2 => ?_⟩
 · unfold updP
   split
   · rename_i e; subst e; exact Or.inr hr
   · exact h.reg x hx
 · unfold updP at h1 h2 ⊢
   by_cases ex : x = t
   · by_cases ey : y = t
     · subst ex; subst ey; rw [nearB_self] at hn; cases hn
     · rw [if_pos ex, if_neg ey]
       rw [if_neg ey] at h2
       subst ex
       exact hfr y hy hn h2
   · by_cases ey : y = t
     · rw [if_neg ex, if_pos ey, ovP_comm]
       rw [if_neg ex] at h1
       subst ey
       exact hfr x hx (by rw [nearB_comm]; exact hn) h1
     · rw [if_neg ex, if_neg ey]
       rw [if_neg ex] at h1
       rw [if_neg ey] at h2
       exact h.apart x y hx hy hn h1 h2
theorem ColAt.ok {p : Pg} {sg : Int} {o : Nat → PlaceV} (h : ColAt p sg o) : ColOk p sg ((List.range p.wide.length).map o) := by
 have e : ∀ t : Nat, t < p.wide.length → regAt ((List.range p.wide.length).map o) t = o t := by
   intro t ht
   unfold regAt
   rw [List.getD_eq_getElem?_getD, List.getElem?_map, Int.toNat_natCast, List.getElem?_range ht]
   rfl
 refine ⟨by simp, fun t ht hk => ?_, fun t ht hk => ?_, fun a b ha hb hn h1 h2 => ?_⟩
 · rw [e t ht] at hk ⊢
   rcases h.reg t ht with h0 | h0
   · rw [h0] at hk; exact absurd rfl hk
   · exact h0
 · rw [e t ht] at hk ⊢
   rcases h.reg t ht with h0 | h0
   · exact h0
   · have := h0.1
     rw [hk] at this
     split at this <;> omega
 · rw [e a ha] at h1 ⊢
   rw [e b hb] at h2 ⊢
   exact h.apart a b ha hb hn h1 h2
end Go.Proofs.YtodmkjeankbieaaGreatDoor


namespace Go.Proofs.YtodmkjeankbieaaGreatDoor

section
variable {α : Type}
open Classical in
theorem nodup_le : ∀ {l l' : List α}, l.Nodup → (∀ x ∈ l, x ∈ l') → l.length ≤ l'.length
 | [], _, _, _ => Nat.zero_le _
 | x :: t, l', hn, hs => by
   have hx := hs x (by simp)
   have hn' := List.nodup_cons.1 hn
   have := nodup_le (l := t) (l' := l'.erase x) hn'.2 (fun y hy => (List.mem_erase_of_ne (fun e => hn'.1 (by rw [← e]; exact hy))).2 (hs y (List.mem_cons_of_mem _ hy)))
   rw [List.length_erase_of_mem hx] at this
   have := List.length_pos_of_mem hx
   simp only [List.length_cons]
   omega
def Card (S : α → Prop) (n : Nat) : Prop := ∃ l : List α, l.Nodup ∧ (∀ x, x ∈ l ↔ S x) ∧ l.length = n
variable {S S' : α → Prop} {n m : Nat}
theorem Card.le (h : Card S n) (h' : Card S' m) (hs : ∀ x, S x → S' x) : n ≤ m := by
 obtain ⟨l, h1, h2, rfl⟩ := h
 obtain ⟨l', _, h2', rfl⟩ := h'
 exact nodup_le h1 (fun x hx => (h2' x).2 (hs x ((h2 x).1 hx)))
theorem Card.lt_iff (h : Card S n) (h' : Card S' m) (hs : ∀ x, S x → S' x) : n < m ↔ ∃ x, S' x ∧ ¬ S x := by
 constructor
 · intro hlt
   apply Classical.byContradiction
   intro hne
   have := h'.le h (fun x hx => Classical.byContradiction fun hc => hne ⟨x, hx, hc⟩)
   omega
 · rintro ⟨x, hx, hnx⟩
   obtain ⟨l, h1, h2, rfl⟩ := h
   obtain ⟨l', _, h2', rfl⟩ := h'
   have := nodup_le (l := x :: l) (l' := l') (List.nodup_cons.2 ⟨fun hc => hnx ((h2 x).1 hc), h1⟩) (fun y hy => by
     rcases List.mem_cons.1 hy with rfl | hy
     · exact (h2' _).2 hx
     · exact (h2' y).2 (hs y ((h2 y).1 hy)))
   simp only [List.length_cons] at this
   omega
theorem Card.below (h : Card S n) {L : List α} (hs : ∀ x, S x → x ∈ L) : n ≤ L.length := by
 obtain ⟨l, h1, h2, rfl⟩ := h
 exact nodup_le h1 (fun x hx => hs x ((h2 x).1 hx))
end

def numsL (p : Pg) : List Nat := 0 :: p.code.map (·.n)
theorem numsL_mem {p : Pg} {n : Nat} (h : NumIn p n) : n ∈ numsL p := by
 rcases h with rfl | ⟨i, hi, _, rfl⟩
 · exact List.mem_cons_self
 · exact List.mem_cons_of_mem _ (List.mem_map.2 ⟨i, hi, rfl⟩)
def placesL (sg sl : Nat) : List PlaceV :=
 (List.range sg).map (fun (n : Nat) => ⟨1, (n : Int)⟩) ++ ((List.range (sg / 2)).map (fun (n : Nat) => ⟨2, (n : Int)⟩) ++ (List.range sl).map (fun (n : Nat) => ⟨3, (n : Int)⟩))
theorem placesL_mem {sg sl : Nat} {a : PlaceV} : a ∈ placesL sg sl ↔ isB sg sl a = true := by
 obtain ⟨k, n⟩ := a
 unfold placesL isB
 simp only [List.mem_append, List.mem_map, List.mem_range, decide_eq_true_eq, PlaceV.mk.injEq]
 constructor
 · rintro (⟨m, h, rfl, rfl⟩ | ⟨m, h, rfl, rfl⟩ | ⟨m, h, rfl, rfl⟩)
   · simp; omega
   · simp; omega
   · simp; omega
 · rintro ⟨h0, h1⟩
   split at h1
   · exact Or.inl ⟨n.toNat, by omega, by omega, by omega⟩
   · split at h1
     · exact Or.inr (Or.inl ⟨n.toNat, by omega, by omega, by omega⟩)
     · split at h1
       · exact Or.inr (Or.inr ⟨n.toNat, by omega, by omega, by omega⟩)
       · omega
def factsL (p : Pg) (sg sl : Nat) : List Fc :=
 ((List.range p.wide.length).flatMap fun (t : Nat) => (numsL p).map fun n => knF (t : Int) n) ++
   (placesL sg sl).flatMap fun a => ((List.range p.wide.length).map fun (t : Nat) => hasF a (t : Int)) ++ (numsL p).map (isF a)
theorem factsL_mem {p : Pg} {sg sl : Nat} {f : Fc} (h : FactIn p sg sl f) : f ∈ factsL p sg sl := by
 obtain ⟨pl, temp, t, n⟩ := f
 unfold factsL
 rcases h with ⟨h1, h2, ⟨h3, h4⟩, _, h6⟩ | ⟨h1, h2, h3, ⟨h4, h5⟩, _⟩ | ⟨h1, h2, h3, _, h5⟩
 · simp only at h1 h2 h3 h4 h6
   subst h1; subst h2
   refine List.mem_append_left _ (List.mem_flatMap.2 ⟨t.toNat, List.mem_range.2 (by omega), List.mem_map.2 ⟨n, numsL_mem h6, ?_⟩⟩)
   unfold knF; simp; omega
 · simp only at h1 h2 h3 h4 h5
   subst h2; subst h3
   refine List.mem_append_right _ (List.mem_flatMap.2 ⟨pl, placesL_mem.2 h1, List.mem_append_left _ (List.mem_map.2 ⟨t.toNat, List.mem_range.2 (by omega), ?_⟩)⟩)
   unfold hasF; simp; omega
 · simp only at h1 h2 h3 h5
   subst h2; subst h3
   exact List.mem_append_right _ (List.mem_flatMap.2 ⟨pl, placesL_mem.2 h1, List.mem_append_right _ (List.mem_map.2 ⟨n, numsL_mem h5, rfl⟩)⟩)
theorem flat_len_le {α β : Type} (f : α → List β) (b : Nat) (h : ∀ x, (f x).length ≤ b) : ∀ l : List α, (l.flatMap f).length ≤ l.length * b
 | [] => by simp
 | x :: l => by
   rw [List.flatMap_cons, List.length_append, List.length_cons, Nat.succ_mul]
   have := h x; have := flat_len_le f b h l; omega
theorem factsL_len {p : Pg} {sg sl : Nat} (hw : p.wide.length ≤ 12) (hc : p.code.length ≤ 40) (hs : sg ≤ 16) (hl : sl ≤ 12) : (factsL p sg sl).length ≤ 2400 := by
 have hn : (numsL p).length ≤ 41 := by unfold numsL; simp; omega
 have hp : (placesL sg sl).length ≤ 36 := by unfold placesL; simp; omega
 unfold factsL
 rw [List.length_append]
 have h1 := flat_len_le (fun (t : Nat) => (numsL p).map fun n => knF (t : Int) n) 41 (fun x => by simpa using hn) (List.range p.wide.length)
 have h2 := flat_len_le (fun a => ((List.range p.wide.length).map fun (t : Nat) => hasF a (t : Int)) ++ (numsL p).map (isF a)) 53 (fun x => by simp; omega) (placesL sg sl)
 simp only [List.length_range] at h1
 have h3 : p.wide.length * 41 ≤ 12 * 41 := Nat.mul_le_mul_right _ hw
 have h4 : (placesL sg sl).length * 53 ≤ 36 * 53 := Nat.mul_le_mul_right _ hp
 omega

section
variable {p : Pg} {sg : Int} {l : Pd}
def thru (p : Pg) (l : Pd) (k : Nat) (s : FS) : FS := thruF p s (inAt p.code k) (rwAt l.rows k)

structure Work (p : Pg) (sg : Int) (l : Pd) (A : Nat → Option FS) (wk : List Nat) : Prop where
 z : A 0 ≠ none
 b0 : ∀ s, A 0 = some s → ∀ f, s f → beginF p sg l.slots f
 sup : ∀ k s, A k = some s → Come p.code k ∧ ∀ f, Kn p sg l k f → s f
 clo : ∀ k s, A k = some s → k ∉ wk → ∀ m ∈ nx p.code k, ∃ s', A m = some s' ∧ ∀ f, s' f → thru p l k s f
 mem : ∀ k ∈ wk, A k ≠ none
structure Mid (p : Pg) (sg : Int) (l : Pd) (A : Nat → Option FS) (wk : List Nat) (k : Nat) (s0 : FS) (ns : List Int) (j : Nat) : Prop where
 z : A 0 ≠ none
 b0 : ∀ s, A 0 = some s → ∀ f, s f → beginF p sg l.slots f
 sup : ∀ k s, A k = some s → Come p.code k ∧ ∀ f, Kn p sg l k f → s f
 clo : ∀ k' s, A k' = some s → k' ∉ wk → k' ≠ k → ∀ m ∈ nx p.code k', ∃ s', A m = some s' ∧ ∀ f, s' f → thru p l k' s f
 mem : ∀ k ∈ wk, A k ≠ none
 live : A k ≠ none
 own : k ∉ wk → A k = some s0 ∧ ∀ n ∈ ns.take j, n.toNat < p.code.length → ∃ s', A n.toNat = some s' ∧ ∀ f, s' f → thru p l k s0 f
 come : Come p.code k
 sk : ∀ f, Kn p sg l k f → s0 f

open Classical in
theorem Work.start : Work p sg l (fun k => if k = 0 then some (beginF p sg l.slots) else none) [0] := by
 refine ⟨by simp, ?_, ?_, ?_, ?_⟩
 · intro s hs f hf; simp at hs; subst hs; exact hf
 · intro k s hs
   split at hs
   · rename_i h; subst h
     cases hs
     exact ⟨Come.zero _, fun f hf => Kn_sol.1 f hf⟩
   · cases hs
 · intro k s hs hk
   split at hs
   · rename_i h; simp [h] at hk
   · cases hs
 · intro k hk; simp at hk; simp [hk]
theorem Work.pop {A : Nat → Option FS} {wk : List Nat} {k : Nat} {s0 : FS} (h : Work p sg l A (k :: wk)) (hs : A k = some s0) (ns : List Int) : Mid p sg l A wk k s0 ns 0 := by
 refine ⟨h.z, h.b0, h.sup, ?_, fun x hx => h.mem x (List.mem_cons_of_mem _ hx), by rw [hs]; simp, fun _ => ⟨hs, fun n hn => by simp at hn⟩, (h.sup k s0 hs).1, (h.sup k s0 hs).2⟩
 intro k' s hk' hw hne
 exact h.clo k' s hk' (fun hc => by rcases List.mem_cons.1 hc with hc | hc; exact hne hc; exact hw hc)
section
variable {A : Nat → Option FS} {wk : List Nat} {k j : Nat} {s0 : FS} {ns : List Int} {n : Int}
theorem take_s {ns : List Int} {j : Nat} {n x : Int} (h : ns[j]? = some n) (hx : x ∈ ns.take (j + 1)) : x ∈ ns.take j ∨ x = n := by
 rw [List.take_add_one, h] at hx
 simpa using hx
theorem Mid.skip (h : Mid p sg l A wk k s0 ns j) (hn : ns[j]? = some n) (hl : ¬ n.toNat < p.code.length) : Mid p sg l A wk k s0 ns (j + 1) :=
 { h with own := fun hk => ⟨(h.own hk).1, fun x hx hlx => by
     rcases take_s hn hx with hx | rfl
     · exact (h.own hk).2 x hx hlx
     · exact absurd hlx hl⟩ }
def setA (A : Nat → Option FS) (m : Nat) (s : FS) : Nat → Option FS := fun x => if x = m then some s else A x
theorem setA_same {A : Nat → Option FS} {m : Nat} {s : FS} : setA A m s m = some s := if_pos rfl
theorem setA_ne {A : Nat → Option FS} {m x : Nat} {s : FS} (h : x ≠ m) : setA A m s x = A x := if_neg h
theorem Mid.put {s : FS} (h : Mid p sg l A wk k s0 ns j) (hn : ns[j]? = some n) (hm : n.toNat ∈ nx p.code k) (hs : ∀ f, s f → thru p l k s0 f) (hle : ∀ s1, A n.toNat = some s1 → ∀ f, s f → s1 f)
   (hge : ∀ f, Kn p sg l n.toNat f → s f) (h00 : n.toNat = 0 → ∃ s1, A 0 = some s1) : Mid p sg l (setA A n.toNat s) (wk ++ [n.toNat]) k s0 ns (j + 1) := by
 have hne0 : ∀ x, A x ≠ none → setA A n.toNat s x ≠ none := by
   intro x hx
   unfold setA; split
   · simp
   · exact hx
 have hsm : ∀ x s1, A x = some s1 → ∃ s2, setA A n.toNat s x = some s2 ∧ ∀ f, s2 f → s1 f := by
   intro x s1 hx
   by_cases e : x = n.toNat
   · subst e; exact ⟨s, setA_same, hle s1 hx⟩
   · exact ⟨s1, (setA_ne e).trans hx, fun _ h => h⟩
 refine ⟨hne0 0 h.z, ?_, ?_, ?_, ?_, hne0 k h.live, ?_, h.come, h.sk⟩
 · intro s2 h2 f hf
   by_cases e : (0 : Nat) = n.toNat
   · rw [e, setA_same] at h2
     cases h2
     obtain ⟨s1, h1⟩ := h00 e.symm
     exact h.b0 s1 h1 f (hle s1 (e ▸ h1) f hf)
   · rw [setA_ne e] at h2
     exact h.b0 s2 h2 f hf
 · intro x s2 h2
   by_cases e : x = n.toNat
   · subst e
     rw [setA_same] at h2
     cases h2
     exact ⟨h.come.next hm, hge⟩
   · rw [setA_ne e] at h2
     exact h.sup x s2 h2
 · intro x s2 h2 hw hxk m hmx
   have e : x ≠ n.toNat := fun e => hw (List.mem_append_right _ (by simp [e]))
   rw [setA_ne e] at h2
   obtain ⟨s', h3, h4⟩ := h.clo x s2 h2 (fun hc => hw (List.mem_append_left _ hc)) hxk m hmx
   obtain ⟨s3, h5, h6⟩ := hsm m s' h3
   exact ⟨s3, h5, fun f hf => h4 f (h6 f hf)⟩
 · intro x hx
   rcases List.mem_append.1 hx with hx | hx
   · exact hne0 x (h.mem x hx)
   · simp at hx; subst hx; rw [setA_same]; simp
 · intro hk
   have e : k ≠ n.toNat := fun e => hk (List.mem_append_right _ (by simp [e]))
   obtain ⟨h1, h2⟩ := h.own (fun hc => hk (List.mem_append_left _ hc))
   refine ⟨(setA_ne e).trans h1, fun x hx hlx => ?_⟩
   rcases take_s hn hx with hx | rfl
   · obtain ⟨s', h3, h4⟩ := h2 x hx hlx
     obtain ⟨s3, h5, h6⟩ := hsm _ s' h3
     exact ⟨s3, h5, fun f hf => h4 f (h6 f hf)⟩
   · exact ⟨s, setA_same, hs⟩
theorem Mid.new (h : Mid p sg l A wk k s0 ns j) (hn : ns[j]? = some n) (hm : n.toNat ∈ nx p.code k) (h0 : A n.toNat = none) : Mid p sg l (setA A n.toNat (thru p l k s0)) (wk ++ [n.toNat]) k s0 ns (j + 1) :=
 h.put hn hm (fun _ h => h) (fun s1 h1 => by rw [h0] at h1; cases h1) (fun f hf => thruF_mono h.sk _ _ f (Kn_sol.2 k h.come _ hm f hf)) (fun e => absurd (e ▸ h0) h.z)
theorem Mid.less {s1 : FS} (h : Mid p sg l A wk k s0 ns j) (hn : ns[j]? = some n) (hm : n.toNat ∈ nx p.code k) (h1 : A n.toNat = some s1) : Mid p sg l (setA A n.toNat (fun f => s1 f ∧ thru p l k s0 f)) (wk ++ [n.toNat]) k s0 ns (j + 1) :=
 h.put hn hm (fun _ h => h.2) (fun s2 h2 f hf => by rw [h1] at h2; cases h2; exact hf.1) (fun f hf => ⟨(h.sup _ _ h1).2 f hf, thruF_mono h.sk _ _ f (Kn_sol.2 k h.come _ hm f hf)⟩) (fun e => ⟨s1, e ▸ h1⟩)
theorem Mid.same {s1 : FS} (h : Mid p sg l A wk k s0 ns j) (hn : ns[j]? = some n) (h1 : A n.toNat = some s1) (hs : ∀ f, s1 f → thru p l k s0 f) : Mid p sg l (setA A n.toNat (fun f => s1 f ∧ thru p l k s0 f)) wk k s0 ns (j + 1) := by
 have e : setA A n.toNat (fun f => s1 f ∧ thru p l k s0 f) = A := by
   funext x
   by_cases e : x = n.toNat
   · subst e
     rw [setA_same, h1]
     congr 1
     funext f
     exact propext ⟨fun h => h.1, fun hf => ⟨hf, hs f hf⟩⟩
   · exact setA_ne e
 rw [e]
 exact { h with own := fun hk => ⟨(h.own hk).1, fun x hx hlx => by
     rcases take_s hn hx with hx | rfl
     · exact (h.own hk).2 x hx hlx
     · exact ⟨s1, h1, hs⟩⟩ }
theorem Mid.done (h : Mid p sg l A wk k s0 (nexts (inAt p.code k) k) (nexts (inAt p.code k) k).length) : Work p sg l A wk := by
 refine ⟨h.z, h.b0, h.sup, ?_, h.mem⟩
 intro x s hx hw m hm
 by_cases e : x = k
 · subst e
   obtain ⟨h1, h2⟩ := h.own hw
   rw [h1] at hx
   cases hx
   unfold nx at hm
   obtain ⟨hm1, hm2⟩ := List.mem_filter.1 hm
   obtain ⟨n, hn, rfl⟩ := List.mem_map.1 hm1
   exact h2 n (by rw [List.take_length]; exact hn) (by simpa using hm2)
 · exact h.clo x s hx hw e m hm
end
theorem Work.end {A : Nat → Option FS} (h : Work p sg l A []) : (∀ k s, A k = some s → Come p.code k ∧ s = Kn p sg l k) ∧ ∀ k, Come p.code k → A k = some (Kn p sg l k) := by
 have hc : ∀ k, Come p.code k → ∃ s, A k = some s := by
   apply Come.ind
   · cases h0 : A 0 with
     | none => exact absurd h0 h.z
     | some s => exact ⟨s, rfl⟩
   · rintro k m _ ⟨s, hs⟩ hm
     obtain ⟨s', h1, _⟩ := h.clo k s hs (by simp) m hm
     exact ⟨s', h1⟩
 have hsol : IsSol p sg l (fun k f => ∃ s, A k = some s ∧ s f) := by
   refine ⟨fun f ⟨s, h1, h2⟩ => h.b0 s h1 f h2, ?_⟩
   rintro k hk m hm f ⟨s', h1, h2⟩
   obtain ⟨s, hs⟩ := hc k hk
   obtain ⟨s2, h3, h4⟩ := h.clo k s hs (by simp) m hm
   rw [h1] at h3
   cases h3
   exact thruF_mono (fun g hg => ⟨s, hs, hg⟩) _ _ f (h4 f h2)
 have heq : ∀ k s, A k = some s → Come p.code k ∧ s = Kn p sg l k := by
   intro k s hs
   obtain ⟨h1, h2⟩ := h.sup k s hs
   refine ⟨h1, funext fun f => propext ⟨fun hf => Kn_max hsol h1 ⟨s, hs, hf⟩, h2 f⟩⟩
 refine ⟨heq, fun k hk => ?_⟩
 obtain ⟨s, hs⟩ := hc k hk
 rw [hs, (heq k s hs).2]
end
end Go.Proofs.YtodmkjeankbieaaGreatDoor


namespace Go.Proofs.YtodmkjeankbieaaGreatDoor
open Go.RowKit Go.Sort Go.Maps

structure SetTy (P : Program) (T K E : TypeId) {α : Type} (ok : α → Prop) (val : α → Value) (lit : α → Lit) : Prop where
 keyed : Keyed P K
 ht : P.underlying T = some (.map K E)
 he : P.underlying E = some .bool
 hz : ∀ w, (zeroValue E).run P w = .ok (.bool false) w
 key : ∀ x, ok x → keyOf P K (val x) = some (lit x)
 inv : ∀ v l, keyOf P K v = some l → ∃ x, ok x ∧ v = val x ∧ l = lit x
 vinj : ∀ x y, val x = val y → x = y

section
variable {P : Program} {T K E : TypeId} {α : Type} {ok : α → Prop} {val : α → Value} {lit : α → Lit}
theorem SetTy.linj (h : SetTy P T K E ok val lit) {x y : α} (hx : ok x) (hy : ok y) (e : lit x = lit y) : x = y :=
 h.vinj _ _ (h.keyed.inj (h.key x hx) (by rw [e]; exact h.key y hy))

theorem elem_bool {H : Type} {v : Value} {d : DataW H} {ps : List MemPlace} (he : P.underlying E = some .bool) (h : plainElem P E v = some (d, ps)) : ∃ x, v = .bool x ∧ d = .lit (.bool x) := by
 unfold plainElem at h
 rw [he] at h
 cases v <;> simp at h
 exact ⟨_, rfl, h.1.symm⟩

def SetAt (P : Program) (K E : TypeId) (ok : α → Prop) (lit : α → Lit) (w : World) (b n : Nat) (S : α → Prop) : Prop :=
 ∃ D : DataW Unit, w.ownsMap P K (plainElem P E) b n D ∧ (∀ x, S x → ok x) ∧ (∀ x, ok x → (Maps.has D (lit x) = true ↔ S x)) ∧ ∀ x, S x → D.atKey (lit x) (.lit (.bool false)) = .lit (.bool true)

variable {w w' : World} {b n : Nat} {S : α → Prop}
theorem own_map_kept {H : Type} {k : TypeId} {R : Value → Option (DataW H × List MemPlace)} {D : DataW H} {X : Nat → Prop} (h : w.ownsMap P k R b n D) (hk : Kept X w w') (hx : ¬ X b) : w'.ownsMap P k R b n D := by
 have hlt := h.lt
 obtain ⟨es, clock, hb, r⟩ := h
 exact ⟨es, clock, (hk.block b hlt hx).trans hb, r⟩
theorem SetAt.lt (h : SetAt P K E ok lit w b n S) : b < w.heap.size := let ⟨_, h, _⟩ := h; h.lt
theorem SetAt.kept {X : Nat → Prop} (h : SetAt P K E ok lit w b n S) (hk : Kept X w w') (hx : ¬ X b) : SetAt P K E ok lit w' b n S :=
 let ⟨D, h1, h2⟩ := h
 ⟨D, own_map_kept h1 hk hx, h2⟩
theorem SetAt.mono (h : SetAt P K E ok lit w b n S) {n' : Nat} (hn : n ≤ n') : SetAt P K E ok lit w b n' S :=
 let ⟨D, h1, h2⟩ := h
 ⟨D, h1.mono hn, h2⟩
theorem SetAt.congr {S' : α → Prop} (h : SetAt P K E ok lit w b n S) (hs : ∀ x, S x ↔ S' x) : SetAt P K E ok lit w b n S' := by
 have e : S = S' := funext fun x => propext (hs x)
 rwa [← e]
theorem SetAt.alloc (h : SetAt P K E ok lit w b n S) (o : Obj) : SetAt P K E ok lit (w.alloc o) b n S := h.kept ((Kept.refl (fun _ => False) w).alloc o) (fun h => h)
theorem SetAt.made (w : World) : SetAt P K E ok lit (w.alloc (.map #[] 0)) w.heap.size 0 (fun _ => False) :=
 ⟨_, World.ownsMap_made w P K _, fun _ h => h.elim, fun x _ => by rw [Maps.has_eq]; simp, fun _ h => h.elim⟩

theorem SetAt.store (hT : SetTy P T K E ok val lit) (h : SetAt P K E ok lit w b n S) (hn : n < maxLen) {x : α} (hx : ok x) :
   ∃ w', (Instr.mapUpdate T (.map (some b)) (val x) (.bool true)).run P w = .ok () w' ∧ SetAt P K E ok lit w' b (n + 1) (fun y => S y ∨ y = x) ∧ Kept (fun k => k = b) w w' := by
 obtain ⟨D, h1, h0, h2, h3⟩ := h
 obtain ⟨w', hrun, ho, hg⟩ := h1.update hT.keyed hT.ht hn (hT.key x hx) (plainElem_bool hT.he true)
 have hm := h1.isMap
 have hkl := hT.keyed.key (hT.key x hx)
 refine ⟨w', hrun, ⟨_, ho, ?_, ?_, ?_⟩, (Kept.refl _ _).grown hg (fun k _ e => (Option.some.inj e).symm)⟩
 · rintro y (hy | rfl)
   · exact h0 y hy
   · exact hx
 · intro y hy
   by_cases e : y = x
   · subst e
     rw [has_put_same hm hkl]
     simp
   · rw [has_put_other (fun hc => e (hT.linj hy hx hc)), h2 y hy]
     simp [e]
 · rintro y hy
   by_cases e : y = x
   · subst e
     exact atKey_put_same hm hkl _ _
   · rw [atKey_put_other (fun hc => e (hT.linj (by rcases hy with hy | hy; exact h0 y hy; exact absurd hy e) hx hc))]
     exact h3 y (by rcases hy with hy | hy; exact hy; exact absurd hy e)

open Classical in
theorem SetAt.look (hT : SetTy P T K E ok val lit) (h : SetAt P K E ok lit w b n S) {x : α} (hx : ok x) :
   (Instr.lookup T (.map (some b)) (val x) false).run P w = .ok (.bool (decide (S x))) w := by
 obtain ⟨D, h1, h0, h2, h3⟩ := h
 obtain ⟨v, ps, hrun, hv⟩ := h1.lookup hT.keyed hT.ht (hT.hz w) (plainElem_bool hT.he false) (hT.key x hx)
 obtain ⟨c, rfl, hc⟩ := elem_bool hT.he hv
 rw [hrun]
 have hc2 : c = decide (S x) := by
   by_cases hS : S x
   · rw [h3 x hS] at hc
     simp only [DataW.lit.injEq, Lit.bool.injEq] at hc
     rw [← hc]; simp [hS]
   · have : Maps.has D (lit x) = false := by
       rw [Bool.eq_false_iff]; intro hh; exact hS ((h2 x hx).1 hh)
     rw [atKey_of_not_has this] at hc
     simp only [DataW.lit.injEq, Lit.bool.injEq] at hc
     rw [← hc]; simp [hS]
 rw [hc2]

theorem list_of {β γ : Type} {Q : γ → Prop} {f : γ → β} : ∀ l : List β, (∀ y ∈ l, ∃ x, Q x ∧ y = f x) → ∃ l' : List γ, l'.map f = l ∧ ∀ x ∈ l', Q x
 | [], _ => ⟨[], rfl, by simp⟩
 | y :: l, h => by
   obtain ⟨x, hx, rfl⟩ := h y (by simp)
   obtain ⟨l', e, hl⟩ := list_of l (fun z hz => h z (List.mem_cons_of_mem _ hz))
   refine ⟨x :: l', by rw [List.map_cons, e], fun z hz => ?_⟩
   rcases List.mem_cons.1 hz with rfl | hz
   · exact hx
   · exact hl z hz
theorem nodup_of_map {β γ : Type} {f : γ → β} : ∀ {l : List γ}, (l.map f).Pairwise (fun a b => a ≠ b) → l.Nodup
 | [], _ => List.nodup_nil
 | x :: l, h => by
   rw [List.map_cons, List.pairwise_cons] at h
   exact List.nodup_cons.2 ⟨fun hx => h.1 (f x) (List.mem_map.2 ⟨x, hx, rfl⟩) rfl, nodup_of_map h.2⟩
theorem SetAt.card (hT : SetTy P T K E ok val lit) (h : SetAt P K E ok lit w b n S) : ∃ m, Card S m ∧ m ≤ n ∧ SetAt P K E ok lit w b m S ∧ ∀ ty, (Builtin.len_ #[T] ty #[.map (some b)]).run P w = .ok (.int .i64 (m : Int)) w := by
 obtain ⟨D, h1, h0, h2, h3⟩ := h
 have hlen := fun ty => h1.len hT.ht ty
 have hle := h1.size_le
 obtain ⟨es0, clock, hb, F, hs, hD⟩ := h1
 have hsz : Maps.size D = es0.size := by rw [hD]; exact length_read es0
 obtain ⟨es, hes, hpw, _⟩ := World.ownsMap.entries (⟨es0, clock, hb, F, hs, hD⟩ : w.ownsMap P K (plainElem P E) b n D) hT.keyed
 have hk : ∀ y ∈ es.map (·.1), ∃ x, ok x ∧ y = lit x := by
   intro y hy
   obtain ⟨p, hp, rfl⟩ := List.mem_map.1 hy
   have hp2 : p ∈ (es0.toList.map (WideElems.rg P K (plainElem P E))).foldr DataW.insert [] := by
     rw [hes] at hD
     injection hD with hD
     rw [← hD]; exact hp
   obtain ⟨x, hx, rfl⟩ := List.mem_map.1 (mem_sorted.1 hp2)
   obtain ⟨y, hy⟩ := F.reads x hx
   obtain ⟨z, hz, _, e⟩ := hT.inv _ _ (WideElems.rd_key hy)
   exact ⟨z, hz, by rw [WideElems.rg_of hy]; exact e⟩
 obtain ⟨l, hl, hlo⟩ := list_of _ hk
 refine ⟨Maps.size D, ⟨l, ?_, ?_, ?_⟩, hle, ⟨D, ⟨es0, clock, hb, F, by omega, hD⟩, h0, h2, h3⟩, hlen⟩
 · apply nodup_of_map (f := lit)
   rw [hl]
   exact List.pairwise_map.2 hpw
 · intro x
   constructor
   · intro hx
     rw [← h2 x (hlo x hx), hes, has_eq, List.any_eq_true]
     have : lit x ∈ es.map (·.1) := by rw [← hl]; exact List.mem_map.2 ⟨x, hx, rfl⟩
     obtain ⟨p, hp, e⟩ := List.mem_map.1 this
     exact ⟨p, hp, by rw [e]; exact WideAt.sameKey_self (hT.keyed.key (hT.key x (hlo x hx)))⟩
   · intro hx
     have hh := (h2 x (h0 x hx)).2 hx
     rw [hes, has_eq, List.any_eq_true] at hh
     obtain ⟨p, hp, e⟩ := hh
     have : p.1 ∈ l.map lit := by rw [hl]; exact List.mem_map.2 ⟨p, hp, rfl⟩
     obtain ⟨y, hy, e2⟩ := List.mem_map.1 this
     have e3 := WideAt.sameKey_eq e
     have := hT.linj (hlo y hy) (h0 x hx) (e2.trans e3)
     rwa [← this]
 · rw [hes, size_eq]
   have := congrArg List.length hl
   simpa using this

def RangeAt (P : Program) (K E : TypeId) (ok : α → Prop) (lit : α → Lit) (w : World) (b r n : Nat) (S L : α → Prop) (cnt : Nat) : Prop :=
 ∃ (D : DataW Unit) (left : Lit → Bool), w.ranges P K (plainElem P E) b r n D left cnt ∧ (∀ x, S x → ok x) ∧ (∀ x, ok x → (Maps.has D (lit x) = true ↔ S x)) ∧ (∀ x, S x → D.atKey (lit x) (.lit (.bool false)) = .lit (.bool true)) ∧
   (∀ x, L x → S x) ∧ ∀ x, S x → (left (lit x) = true ↔ L x)

variable {r cnt : Nat} {L : α → Prop}
theorem ranges_kept {H : Type} {k : TypeId} {R : Value → Option (DataW H × List MemPlace)} {D : DataW H} {left : Lit → Bool} {X : Nat → Prop} (h : w.ranges P k R b r n D left cnt) (hk : Kept X w w') (hx : ¬ X b) (hr : ¬ X r) : w'.ranges P k R b r n D left cnt := by
 have hb1 := h.owns.lt
 have hr1 := h.lt
 obtain ⟨es, clock, since, seen, c0, hb, F, hs, hD, hr', rest⟩ := h
 exact ⟨es, clock, since, seen, c0, (hk.block b hb1 hx).trans hb, F, hs, hD, (hk.block r hr1 hr).trans hr', rest⟩
theorem RangeAt.kept {X : Nat → Prop} (h : RangeAt P K E ok lit w b r n S L cnt) (hk : Kept X w w') (hx : ¬ X b) (hr : ¬ X r) : RangeAt P K E ok lit w' b r n S L cnt :=
 let ⟨D, left, h1, h2⟩ := h
 ⟨D, left, ranges_kept h1 hk hx hr, h2⟩
theorem RangeAt.set (h : RangeAt P K E ok lit w b r n S L cnt) : SetAt P K E ok lit w b n S :=
 let ⟨D, _, h1, h2, h3, h4, _⟩ := h
 ⟨D, h1.owns, h2, h3, h4⟩
theorem RangeAt.lt (h : RangeAt P K E ok lit w b r n S L cnt) : r < w.heap.size ∧ r ≠ b := let ⟨_, _, h1, _⟩ := h; ⟨h1.lt, h1.ne⟩
theorem RangeAt.left_eq (h : RangeAt P K E ok lit w b r n S L cnt) : w.rangeLeft b r = cnt := let ⟨_, _, h1, _⟩ := h; h1.left_eq
theorem SetAt.range (hT : SetTy P T K E ok val lit) (h : SetAt P K E ok lit w b n S) :
   ∃ w' cnt, (Instr.range T (.map (some b))).run P w = .ok (.pointer (some ⟨w.heap.size, 0, none⟩)) w' ∧ RangeAt P K E ok lit w' b w.heap.size n S S cnt ∧ Kept (fun _ => False) w w' ∧ w'.heap.size = w.heap.size + 1 ∧ cnt ≤ n := by
 obtain ⟨D, h1, h0, h2, h3⟩ := h
 obtain ⟨w', hrun, hr, hg, hs⟩ := h1.range hT.keyed hT.ht
 exact ⟨w', _, hrun, ⟨D, _, hr, h0, h2, h3, fun _ h => h, fun x hx => h2 x (h0 x hx)⟩, (Kept.refl _ _).grown hg (fun k _ e => by cases e), hs, h1.size_le⟩
theorem RangeAt.next (hT : SetTy P T K E ok val lit) (h : RangeAt P K E ok lit w b r n S L cnt) (ty : TypeId) :
   (cnt = 0 ∧ (∀ x, ¬ L x) ∧ (Instr.next (.pointer (some ⟨r, 0, none⟩)) false ty).run P w = .ok (.tuple #[.bool false]) w) ∨
   ∃ x w' cnt', L x ∧ (Instr.next (.pointer (some ⟨r, 0, none⟩)) false ty).run P w = .ok (.tuple #[.bool true, val x, .bool true]) w' ∧ RangeAt P K E ok lit w' b r n S (fun y => L y ∧ y ≠ x) cnt' ∧ cnt' < cnt ∧
     Kept (fun k => k = r) w w' ∧ w'.heap.size = w.heap.size ∧ (Instr.entry (.pointer (some ⟨r, 0, none⟩))).run P w' = .ok (.tuple #[val x, .bool true]) w' := by
 obtain ⟨D, left, h1, h0, h2, h3, h4, h5⟩ := h
 rcases h1.next hT.keyed ty with ⟨e, hl, hrun⟩ | ⟨key, v, kl, y, w', cnt', hkey, hlk, hv, hat, hrun, hr, hlt, hg, hsz, hen⟩
 · refine Or.inl ⟨e, fun x hx => ?_, hrun⟩
   have := (h5 x (h4 x hx)).2 hx
   rw [hl] at this; cases this
 · obtain ⟨x, hx, rfl, rfl⟩ := hT.inv _ _ hkey
   have hS : S x := by
     rw [← h2 x hx]
     refine has_true_of_atKey (y := y.1) hat
   have hLx : L x := (h5 x hS).1 hlk
   obtain ⟨d, ps⟩ := y
   obtain ⟨c, rfl, rfl⟩ := elem_bool hT.he hv
   have hc := hat (.lit (.bool false))
   rw [h3 x hS] at hc
   simp only [DataW.lit.injEq, Lit.bool.injEq] at hc
   subst hc
   have hkl := hT.keyed.key hkey
   refine Or.inr ⟨x, w', cnt', hLx, hrun, ⟨D, _, hr, h0, h2, h3, fun z hz => h4 z hz.1, fun z hz => ?_⟩, hlt, (Kept.refl _ _).grown hg (fun k _ e => (Option.some.inj e).symm), hsz, hen⟩
   have hz5 := h5 z hz
   by_cases e : z = x
   · subst e
     rw [WideAt.sameKey_self hkl]
     simp
   · rw [sameKey_ne (fun hc => e (hT.linj (h0 z hz) hx hc))]
     simp [hz5, e]

section
variable (w : World) {ops : Array Oper} {rest : List Oper} {o : Oper} {a : Act} {Q : Exit → Act → World → Prop}
theorem wpList_set_store (hg : o.guard = none) (m x v : Operand) (hop : o.op = Op.mapUpdate T m x v) (hT : SetTy P T K E ok val lit) (b n : Nat) (S : α → Prop) (hm : a.eval m = .map (some b)) (h : SetAt P K E ok lit w b n S) (hn : n < maxLen)
   (X : α) (hx : a.eval x = val X) (hok : ok X) (hv : a.eval v = .bool true)
   (hK : ∀ w', SetAt P K E ok lit w' b (n + 1) (fun y => S y ∨ y = X) → Kept (fun k => k = b) w w' → wpList P ops Q rest (a.put o.dst undef) w') : wpList P ops Q (o :: rest) a w := by
 refine wpList_plain hg fun K' hK' => ?_
 obtain ⟨w', hrun, r1, r2⟩ := h.store hT hn hok
 unfold Oper.wp
 simp [execOp, hop, hm, hx, hv, hrun, Result.andThen]
 exact hK' _ _ (hK w' r1 r2)
open Classical in
theorem wpList_set_look (hg : o.guard = none) (m x : Operand) (hop : o.op = Op.lookup T m x false) (hT : SetTy P T K E ok val lit) (b n : Nat) (S : α → Prop) (hm : a.eval m = .map (some b)) (h : SetAt P K E ok lit w b n S)
   (X : α) (hx : a.eval x = val X) (hok : ok X) (hK : wpList P ops Q rest (a.put o.dst (.bool (decide (S X)))) w) : wpList P ops Q (o :: rest) a w := by
 refine wpList_plain hg fun K' hK' => ?_
 have hrun := h.look hT hok
 unfold Oper.wp
 simp [execOp, hop, hm, hx, hrun, Result.andThen]
 exact hK' _ _ hK
theorem wpList_set_range (hg : o.guard = none) (m : Operand) (hop : o.op = Op.range T m) (hT : SetTy P T K E ok val lit) (b n : Nat) (S : α → Prop) (hm : a.eval m = .map (some b)) (h : SetAt P K E ok lit w b n S)
   (hK : ∀ w' cnt, RangeAt P K E ok lit w' b w.heap.size n S S cnt → Kept (fun _ => False) w w' → w'.heap.size = w.heap.size + 1 → cnt ≤ n → wpList P ops Q rest (a.put o.dst (.pointer (some ⟨w.heap.size, 0, none⟩))) w') : wpList P ops Q (o :: rest) a w := by
 refine wpList_plain hg fun K' hK' => ?_
 obtain ⟨w', cnt, hrun, r1, r2, r3, r4⟩ := h.range hT
 unfold Oper.wp
 simp [execOp, hop, hm, hrun, Result.andThen]
 exact hK' _ _ (hK w' cnt r1 r2 r3 r4)
theorem wpList_set_next (hg : o.guard = none) (it : Operand) (hop : o.op = Op.next it false) (hT : SetTy P T K E ok val lit) (b r n : Nat) (S L : α → Prop) (cnt : Nat) (hit : a.eval it = .pointer (some ⟨r, 0, none⟩)) (h : RangeAt P K E ok lit w b r n S L cnt)
   (hDone : cnt = 0 → (∀ x, ¬ L x) → wpList P ops Q rest (a.put o.dst (.tuple #[.bool false])) w)
   (hMore : ∀ (x : α) (w' : World) (cnt' : Nat), L x → RangeAt P K E ok lit w' b r n S (fun y => L y ∧ y ≠ x) cnt' → cnt' < cnt → Kept (fun k => k = r) w w' → w'.heap.size = w.heap.size →
     (Instr.entry (.pointer (some ⟨r, 0, none⟩))).run P w' = .ok (.tuple #[val x, .bool true]) w' → wpList P ops Q rest (a.put o.dst (.tuple #[.bool true, val x, .bool true])) w') : wpList P ops Q (o :: rest) a w := by
 refine wpList_plain hg fun K' hK' => ?_
 unfold Oper.wp
 rcases h.next hT o.type with ⟨h0, hl, hrun⟩ | ⟨x, w', cnt', hx, hrun, hr, hlt, hk, hsz, hen⟩
 · simp [execOp, hop, hit, hrun, Result.andThen]
   exact hK' _ _ (hDone h0 hl)
 · simp [execOp, hop, hit, hrun, Result.andThen]
   exact hK' _ _ (hMore x w' cnt' hx hr hlt hk hsz hen)
end
end
end Go.Proofs.YtodmkjeankbieaaGreatDoor


namespace Go.Proofs.YtodmkjeankbieaaGreatDoor

section
variable {p : Pg} {ns : List Nat} {sg sl : Nat}
end

abbrev Bits := Nat → Bool
section
variable {p : Pg} {sg sl : Int} {all : List Fc} {s : Bits}
end
end Go.Proofs.YtodmkjeankbieaaGreatDoor


namespace Go.Proofs.YtodmkjeankbieaaGreatDoor

def sumN (n : Nat) (f : Nat → Nat) : Nat := ((List.range n).map f).sum
theorem sumN_s (n : Nat) (f : Nat → Nat) : sumN (n + 1) f = sumN n f + f n := by
 unfold sumN
 rw [List.range_succ, List.map_append, List.sum_append]; simp
theorem sumN_le {f g : Nat → Nat} : ∀ {n : Nat}, (∀ k, k < n → f k ≤ g k) → sumN n f ≤ sumN n g
 | 0, _ => Nat.le_refl _
 | n + 1, h => by
   rw [sumN_s, sumN_s]
   have := h n (by omega)
   have := sumN_le (n := n) fun k hk => h k (by omega)
   omega
theorem sumN_lt {f g : Nat → Nat} : ∀ {n k : Nat}, (∀ k, k < n → f k ≤ g k) → k < n → f k < g k → sumN n f < sumN n g
 | 0, _, _, hk, _ => by omega
 | n + 1, k, h, hk, hlt => by
   rw [sumN_s, sumN_s]
   by_cases e : k = n
   · subst e
     have := sumN_le (n := k) fun j hj => h j (by omega)
     omega
   · have := sumN_lt (n := n) (k := k) (fun j hj => h j (by omega)) (by omega) hlt
     have := h n (by omega)
     omega
section
variable {p : Pg} {sg : Int} {l : Pd} {all : List Fc}
section
variable {S0 S : Nat → Bits} {c0 c : Bits} {a tk : Bool} {k j : Nat} {s : Bits} {ns : List Int}
end
end
end Go.Proofs.YtodmkjeankbieaaGreatDoor


namespace Go.Proofs.YtodmkjeankbieaaGreatDoor

def plK (k : Int) (n : Nat) : List PlaceV := (List.range n).map fun (i : Nat) => (⟨k, (i : Int)⟩ : PlaceV)
theorem plK_s (k : Int) (n : Nat) : plK k (n + 1) = plK k n ++ [⟨k, (n : Int)⟩] := by unfold plK; rw [List.range_succ, List.map_append]; rfl
def manyP (sg sl : Nat) (k : Nat) : Nat := if k = 1 then sg else if k = 2 then sg / 2 else if k = 3 then sl else 0
def preL (sg sl : Nat) (k n : Nat) : List PlaceV := if k = 1 then plK 1 n else if k = 2 then plK 1 sg ++ plK 2 n else plK 1 sg ++ plK 2 (sg / 2) ++ plK 3 n
theorem placesL_eq (sg sl : Nat) : placesL sg sl = plK 1 sg ++ plK 2 (sg / 2) ++ plK 3 sl := by unfold placesL plK; rw [List.append_assoc]
theorem preL_s {sg sl k n : Nat} (hk : k = 1 ∨ k = 2 ∨ k = 3) : preL sg sl k (n + 1) = preL sg sl k n ++ [⟨(k : Int), (n : Int)⟩] := by
 unfold preL
 rcases hk with rfl | rfl | rfl
 · simp [plK_s]
 · simp [plK_s]
 · simp [plK_s]
theorem preL_two (sg sl : Nat) : preL sg sl 2 0 = preL sg sl 1 (manyP sg sl 1) := by simp [preL, manyP, plK]
theorem preL_three (sg sl : Nat) : preL sg sl 3 0 = preL sg sl 2 (manyP sg sl 2) := by simp [preL, manyP, plK]
theorem preL_end (sg sl : Nat) : preL sg sl 3 (manyP sg sl 3) = placesL sg sl := by rw [placesL_eq]; simp [preL, manyP]
section
variable {p : Pg} {ns : List Nat} {sg sl : Nat}
end
end Go.Proofs.YtodmkjeankbieaaGreatDoor


namespace Go.Proofs.YtodmkjeankbieaaGreatDoor

section
open Classical
noncomputable def cntF (p : Pg) (sg sl : Nat) (S : FS) : Nat := ((factsL p sg sl).filter fun f => decide (S f)).length
theorem filter_le {α : Type} {P Q : α → Bool} : ∀ {l : List α}, (∀ x ∈ l, P x = true → Q x = true) → (l.filter P).length ≤ (l.filter Q).length
 | [], _ => Nat.le_refl _
 | x :: l, h => by
   have ih := filter_le (l := l) fun y hy => h y (List.mem_cons_of_mem _ hy)
   have hx := h x List.mem_cons_self
   rw [List.filter_cons, List.filter_cons]
   cases hp : P x with
   | false => cases hq : Q x <;> simp <;> omega
   | true => rw [hx hp]; simp; omega
theorem filter_lt {α : Type} {P Q : α → Bool} {y : α} : ∀ {l : List α}, (∀ x ∈ l, P x = true → Q x = true) → y ∈ l → Q y = true → P y = false → (l.filter P).length < (l.filter Q).length
 | [], _, hy, _, _ => by cases hy
 | x :: l, h, hy, h1, h2 => by
   have hx := h x List.mem_cons_self
   rw [List.filter_cons, List.filter_cons]
   rcases List.mem_cons.1 hy with rfl | hy
   · have ih := filter_le (l := l) fun z hz => h z (List.mem_cons_of_mem _ hz)
     rw [h2, h1]; simp; omega
   · have ih := filter_lt (l := l) (fun z hz => h z (List.mem_cons_of_mem _ hz)) hy h1 h2
     cases hp : P x with
     | false => cases hq : Q x <;> simp <;> omega
     | true => rw [hx hp]; simp; omega
theorem cntF_all {p : Pg} {sg sl : Nat} {S : FS} : cntF p sg sl S ≤ (factsL p sg sl).length := List.length_filter_le _ _
theorem cntF_lt {p : Pg} {sg sl : Nat} {S S' : FS} (h : ∀ f, S' f → S f) {f : Fc} (hi : FactIn p sg sl f) (h1 : S f) (h2 : ¬ S' f) : cntF p sg sl S' < cntF p sg sl S :=
 filter_lt (fun f _ hf => decide_eq_true (h f (of_decide_eq_true hf))) (factsL_mem hi) (decide_eq_true h1) (decide_eq_false h2)
end
noncomputable def potF (p : Pg) (sg sl : Nat) : Option FS → Nat
 | none => (factsL p sg sl).length + 1
 | some S => cntF p sg sl S
noncomputable def workM (p : Pg) (sg sl : Nat) (A : Nat → Option FS) (wk : List Nat) : Nat := 2 * sumN p.code.length (fun k => potF p sg sl (A k)) + wk.length
section
variable {p : Pg} {sg sl : Nat} {A : Nat → Option FS} {wk : List Nat} {m : Nat} {s : FS}
theorem workM_pop {k : Nat} : workM p sg sl A (k :: wk) = workM p sg sl A wk + 1 := by unfold workM; simp; omega
theorem workM_put (hm : m < p.code.length) (h : potF p sg sl (some s) < potF p sg sl (A m)) : workM p sg sl (setA A m s) (wk ++ [m]) < workM p sg sl A wk := by
 have : sumN p.code.length (fun k => potF p sg sl (setA A m s k)) < sumN p.code.length (fun k => potF p sg sl (A k)) := by
   refine sumN_lt (fun k _ => ?_) hm (by simp only [setA_same]; exact h)
   by_cases e : k = m
   · subst e; simp only [setA_same]; omega
   · simp only [setA_ne e]; exact Nat.le_refl _
 unfold workM
 simp
 omega
theorem workM_new (hm : m < p.code.length) (h : A m = none) : workM p sg sl (setA A m s) (wk ++ [m]) < workM p sg sl A wk :=
 workM_put hm (by rw [h]; exact Nat.lt_succ_of_le cntF_all)
theorem workM_less {s1 : FS} (hm : m < p.code.length) (h : A m = some s1) (hs : ∀ f, s f → s1 f) {f : Fc} (hi : FactIn p sg sl f) (h1 : s1 f) (h2 : ¬ s f) : workM p sg sl (setA A m s) (wk ++ [m]) < workM p sg sl A wk :=
 workM_put hm (by rw [h]; exact cntF_lt hs hi h1 h2)
theorem workM_same {s1 : FS} (h : A m = some s1) (hs : ∀ f, s f ↔ s1 f) : workM p sg sl (setA A m s) wk = workM p sg sl A wk := by
 have : setA A m s = A := by
   funext x
   by_cases e : x = m
   · subst e
     rw [setA_same, h]
     congr 1
     funext f
     exact propext (hs f)
   · exact setA_ne e
 rw [this]
end
end Go.Proofs.YtodmkjeankbieaaGreatDoor


namespace Go.Proofs.YtodmkjeankbieaaGreatDoor
open Go.RowKit Go.Sort

def QRow (w : World) (base : Nat) (e : TypeId) (v : Value) (l : List Value) : Prop :=
 ∃ (g off cap : Nat) (cur : Array Value), v = .slice (some ⟨g, off, none⟩) l.length cap ∧ base ≤ g ∧ Blk w g e cur ∧ off + cap ≤ cur.size ∧ l.length ≤ cap ∧ cap ≤ maxLen ∧ ∀ j u, l[j]? = some u → cur[off + j]? = some u
section
variable {w w' : World} {base : Nat} {e : TypeId} {v : Value} {l : List Value}
theorem QRow.kept {S : Nat → Prop} (h : QRow w base e v l) (hk : Kept S w w') (hs : ∀ g, v.ownBlock = some g → ¬ S g) : QRow w' base e v l := by
 obtain ⟨g, off, cap, cur, rfl, hb, hB, r⟩ := h
 exact ⟨g, off, cap, cur, rfl, hb, hB.kept hk (hs g rfl), r⟩
theorem QRow.fr (h : QRow w base e v l) (hk : Fr w w') : QRow w' base e v l := h.kept hk (fun _ _ h => h)
theorem QRow.blk_ne {g : Nat} {t : TypeId} {cs : Array Value} (h : QRow w base e v l) (hg : Blk w g t cs) (hne : e ≠ t) : v.ownBlock ≠ some g := by
 obtain ⟨g', off, cap, cur, rfl, hb, hB, r⟩ := h
 intro he
 have : g' = g := by simpa [Value.ownBlock] using he
 subst this
 exact hB.ne_ hg hne rfl
theorem QRow.lt (h : QRow w base e v l) {g : Nat} (hg : v.ownBlock = some g) : base ≤ g ∧ g < w.heap.size := by
 obtain ⟨g', off, cap, cur, rfl, hb, hB, r⟩ := h
 have : g' = g := by simpa [Value.ownBlock] using hg
 subst this
 exact ⟨hb, hB.lt⟩
theorem QRow.one {g : Nat} {u : Value} (hb : base ≤ g) (hB : Blk w g e #[u]) : QRow w base e (.slice (some ⟨g, 0, none⟩) 1 1) [u] :=
 ⟨g, 0, 1, #[u], rfl, hb, hB, by simp, by simp, by decide, fun j x hj => by
   match j, hj with
   | 0, hj => simpa using hj⟩
theorem QRow.of_own {b n : Nat} {xs : List Value} (h : w.ownsRow b e 1 v n xs) (hn : 0 < n) (hb : base ≤ b) : QRow w base e v xs := by
 obtain ⟨hl, h2⟩ := h
 rcases h2 with ⟨_, h0⟩ | ⟨g, cap, cur, rfl, hg, hh, hnc, hcm, hcs, ht⟩
 · omega
 · have hl1 : xs.length = n := by omega
   refine ⟨g, 0, cap, cur, by rw [hl1], by omega, hh, by omega, by omega, hcm, fun j u hj => ?_⟩
   rw [← ht, List.getElem?_take] at hj
   split at hj
   · simpa using hj
   · cases hj
variable {P : Program}
theorem QRow.push {t : TypeId} {bytes : Nat} (hT : SlTy P t e 1 bytes) (h : QRow w base e v l) {R : Nat → Prop} {A : Option Addr} {c : Nat} {u : Value} (hr : Reads w R 1 A 1 [u]) (h1 : u.oneCell' = true)
   (hbytes : (l.length + 1) * bytes ≤ 140737488355328) (h63 : l.length + 1 ≤ maxLen) (hbase : base ≤ w.heap.size) (ty : TypeId) :
   ∃ v' w', (Builtin.append_ #[t, t] ty #[v, .slice A 1 c]).run P w = .ok v' w' ∧ QRow w' base e v' (l ++ [u]) ∧ Kept (fun k => v.ownBlock = some k) w w' ∧ (v'.ownBlock = v.ownBlock ∨ ∀ g, v'.ownBlock = some g → w.heap.size ≤ g) := by
 obtain ⟨i, z, hi, hz, hsize, hby, hzs⟩ := hT.ex
 obtain ⟨g, off, cap, cur, rfl, hb, hB, hs, hl, hm, hc⟩ := h
 obtain ⟨ba, oa, rfl, _, hca⟩ := hr.2 (by omega)
 have hnews : ∀ j x, [u][j]? = some x → w.cell? ((⟨ba, oa, none⟩ : Addr).add j) = some x := fun j x hj => by rw [add_none]; exact hca j x hj
 by_cases hroom : l.length + 1 ≤ cap
 · have hcell : (w.cell? ⟨g, off + l.length, none⟩).isSome = true := by
     rw [hB.cell, Array.getElem?_eq_getElem (by omega)]; rfl
   have hrun := run_append_room_cells (P := P) (w := w) t ty e i hT.ht hi g off l.length cap ⟨ba, oa, none⟩ 1 c [u] (by simp [hsize]) hnews (by simpa using h1) hroom
     (fun j hj => by
       have : j = 0 := by simpa using hj
       subst this; rw [hsize]; simpa using hcell)
     (fun j hj => by
       have : j = 0 := by simpa using hj
       subst this; rw [hsize]; simpa using hB.frozen (off + l.length))
   have hset : w.setCells g (off + l.length * i.size) [u] = w.setCell ⟨g, off + l.length, none⟩ u := by
     rw [hsize, Nat.mul_one]; rfl
   rw [hset] at hrun
   refine ⟨_, _, hrun, ⟨g, off, cap, _, by simp, hb, hB.set_ (off + l.length) u, by simpa using hs, by simpa using hroom, hm, fun j x hj => ?_⟩, ((Kept.refl (fun k => (Value.slice (some ⟨g, off, none⟩) l.length cap).ownBlock = some k) w).setCell (p := ⟨g, off + l.length, none⟩) (fun _ => rfl) u), Or.inl rfl⟩
   rw [Array.getElem?_setIfInBounds]
   by_cases ej : j = l.length
   · subst ej
     rw [if_pos rfl, if_pos (by omega)]
     simpa using hj
   · rw [if_neg (by omega)]
     have hjl : j < l.length := by
       have := (List.getElem?_eq_some_iff.1 hj).1
       simp at this; omega
     rw [List.getElem?_append_left hjl] at hj
     exact hc j x hj
 · obtain ⟨v', w', hrun, ho, hg⟩ := run_append_arg_grows (P := P) (w := w) t ty e i z 1 bytes hT.ht hi hz hsize hby hzs (by omega) ⟨g, off, none⟩ l.length cap l (by simp) (fun j x hj => by rw [add_none, hB.cell]; exact hc j x hj) ⟨ba, oa, none⟩ 1 c [u] (by simp) hnews (by omega) h63 hbytes
   exact ⟨v', w', hrun, QRow.of_own ho (by omega) hbase, (Kept.refl _ w).grown hg (fun k _ e => by cases e), Or.inr fun g hg => (own_lt ho hg).1⟩
theorem wp_push {o : Oper} {a : Act} {K : Act → World → Prop} {Q : Exit → Act → World → Prop} {t : TypeId} {bytes : Nat} (hT : SlTy P t e 1 bytes) (s x : Operand)
   (ho : o.op = .call { callee := .builtin .append, args := #[s, x], argTypes := #[t, t] })
   (hs : a.eval s = v) (h : QRow w base e v l) (R : Nat → Prop) (A : Option Addr) (c : Nat) (u : Value) (hx : a.eval x = .slice A 1 c) (hr : Reads w R 1 A 1 [u]) (h1 : u.oneCell' = true)
   (hbytes : (l.length + 1) * bytes ≤ 140737488355328) (h63 : l.length + 1 ≤ maxLen) (hbase : base ≤ w.heap.size)
   (hK : ∀ v' w', QRow w' base e v' (l ++ [u]) → Kept (fun k => v.ownBlock = some k) w w' → (v'.ownBlock = v.ownBlock ∨ ∀ g, v'.ownBlock = some g → w.heap.size ≤ g) → K (a.put o.dst v') w') : o.wp P a w K Q := by
 obtain ⟨v', w', hrun, h2, h3, h4⟩ := h.push hT hr h1 hbytes h63 hbase o.type
 unfold Oper.wp execOp
 simp only [ho, resolve, invoke, builtin, Sem.run_bind, Sem.run_pure, Result.andThen_ok, List.map_toArray, List.map_cons, List.map_nil, hs, hx]
 rw [hrun]
 exact hK v' w' h2 h3 h4
theorem wpList_push {ops : Array Oper} {rest : List Oper} {o : Oper} {a : Act} {Q : Exit → Act → World → Prop} (hgd : o.guard = none) {t : TypeId} {bytes : Nat} (hT : SlTy P t e 1 bytes) (s x : Operand)
   (ho : o.op = .call { callee := .builtin .append, args := #[s, x], argTypes := #[t, t] })
   (hs : a.eval s = v) (h : QRow w base e v l) (R : Nat → Prop) (A : Option Addr) (c : Nat) (u : Value) (hx : a.eval x = .slice A 1 c) (hr : Reads w R 1 A 1 [u]) (h1 : u.oneCell' = true)
   (hbytes : (l.length + 1) * bytes ≤ 140737488355328) (h63 : l.length + 1 ≤ maxLen) (hbase : base ≤ w.heap.size)
   (hK : ∀ v' w', QRow w' base e v' (l ++ [u]) → Kept (fun k => v.ownBlock = some k) w w' → (v'.ownBlock = v.ownBlock ∨ ∀ g, v'.ownBlock = some g → w.heap.size ≤ g) → wpList P ops Q rest (a.put o.dst v') w') : wpList P ops Q (o :: rest) a w :=
 wpList_plain hgd fun _ hK' => wp_push hT s x ho hs h R A c u hx hr h1 hbytes h63 hbase fun v' w' h2 h3 h4 => hK' _ _ (hK v' w' h2 h3 h4)
theorem QRow.popV {t : TypeId} {bytes : Nat} (hT : SlTy P t e 1 bytes) {x : Value} (h : QRow w base e v (x :: l)) : ∃ g off cap v', v = .slice (some ⟨g, off, none⟩) (l.length + 1) cap ∧ g < w.heap.size ∧ l.length + 1 ≤ cap ∧ cap ≤ maxLen ∧ w.cell? ⟨g, off, none⟩ = some x ∧ QRow w base e v' l ∧
   ∀ w2 : World, (Instr.slice t (.slice (some ⟨g, off, none⟩) (l.length + 1) cap) (some (.int .i64 1)) none none).run P w2 = .ok v' w2 := by
 obtain ⟨i, z, hi, hz, hsize, hby, hzs⟩ := hT.ex
 obtain ⟨g, off, cap, cur, rfl, hb, hB, hs, hl, hm, hc⟩ := h
 simp only [List.length_cons] at hl
 have hu := hT.ht
 by_cases hc1 : cap = 1
 · subst hc1
   have h0 : l.length = 0 := by omega
   have hl0 : l = [] := List.eq_nil_of_length_eq_zero h0
   subst hl0
   refine ⟨g, off, 1, .slice (some ⟨g, off, none⟩) 0 0, rfl, hB.lt, by simp, by decide, (hB.cell off).trans (hc 0 x rfl), ⟨g, off, 0, cur, rfl, hb, hB, by omega, by simp, by decide, fun j u hj => by simp at hj⟩, fun w2 => ?_⟩
   have h01 : (0 : Int) ≤ 1 ∧ (1 : Int) ≤ ((1 : Nat) : Int) := by omega
   simp [Instr.slice, Instr.sliceBounds, Instr.sliceBound, asIntOf, run_underlying hu, sizeOf, typeInfo, hi, hsize]
 · refine ⟨g, off, cap, .slice (some ⟨g, off + 1, none⟩) l.length (cap - 1), rfl, hB.lt, hl, hm, (hB.cell off).trans (hc 0 x rfl), ⟨g, off + 1, cap - 1, cur, rfl, hb, hB, by omega, by omega, by omega, fun j u hj => ?_⟩, fun w2 => ?_⟩
   · rw [show off + 1 + j = off + (j + 1) by omega]
     exact hc (j + 1) u (by simpa using hj)
   · have h01 : (1 : Int) ≤ (l.length : Int) + 1 := by omega
     simp [Instr.slice, Instr.sliceBounds, Instr.sliceBound, asIntOf, run_underlying hu, sizeOf, typeInfo, hi, hsize, h01, hc1, Addr.add]
end
end Go.Proofs.YtodmkjeankbieaaGreatDoor


namespace Go.Proofs.YtodmkjeankbieaaGreatDoor

def Uni (s : FS) : Prop := ∀ t n n', s (knF t n) → s (knF t n') → n = n'
theorem kn_inj {t t' : Int} {n n' : Nat} (h : knF t n = knF t' n') : t = t' ∧ n = n' := by
 unfold knF at h
 injection h with _ _ h1 h2
 exact ⟨h1, h2⟩
section
variable {p : Pg} {sg sl : Int} {s : FS}
theorem moveF_kn (hu : InU p sg sl s) {m : Mv} (hm : mvB sg sl m = true) {t : Int} {n : Nat} (h : moveF p s m (knF t n)) : s (knF t n) := by
 have h0 := isB_kind (mvB_facts hm).1
 rcases h with h1 | ⟨_, _, h1⟩ | ⟨_, g, _, _, _, h1⟩ | ⟨_, g, _, _, ⟨_, _, h1⟩ | ⟨_, _, h1⟩⟩
 · exact h1.1
 · injection h1 with _ h1; cases h1
 · injection h1 with h1; rw [← h1] at h0; simp at h0
 · injection h1 with h1; rw [← h1] at h0; simp at h0
 · injection h1 with _ h1; cases h1
theorem movesF_kn : ∀ (l : List Mv) {s : FS}, InU p sg sl s → (∀ m ∈ l, mvB sg sl m = true) → ∀ {t : Int} {n : Nat}, movesF p s l (knF t n) → s (knF t n)
 | [], _, _, _, _, _, h => h
 | m :: l, _, hu, hm, _, _, h => moveF_kn hu (hm m (by simp)) (movesF_kn l (moveF_in hu (hm m (by simp))) (fun x hx => hm x (List.mem_cons_of_mem _ hx)) h)
theorem giveF_uni (hu : InU p sg sl s) {i : In} {a : PlaceV} (ha : isB sg sl a = true) (h : Uni s) : Uni (giveF s i a) := by
 have h0 := isB_kind ha
 have key : ∀ t n, giveF s i a (knF t n) → (s (knF t n) ∧ t ≠ i.d) ∨ (t = i.d ∧ i.op = 1 ∧ n = i.n) ∨ (t = i.d ∧ i.op = 2 ∧ s (knF i.a n)) := by
   intro t n h1
   rcases h1 with h1 | ⟨ho, h1⟩ | ⟨ho, h1⟩ | h1
   · left
     refine ⟨h1.1, ?_⟩
     rcases h1.2.2 with h2 | h2
     · cases h2
     · exact h2
   · rcases h1 with ⟨g, hg, ht, _, _, h1⟩ | h1 | h1
     · injection h1 with h1 _ _ _
       have := (factIn_num (hu g hg) ht).1
       rw [← h1] at this
       have := isB_kind this
       simp at this
     · obtain ⟨e1, e2⟩ := kn_inj h1
       exact Or.inr (Or.inl ⟨e1, ho, e2⟩)
     · injection h1 with _ h1; cases h1
   · rcases h1 with ⟨g, hg, ht, hga, h1⟩ | h1
     · rcases h1 with ⟨hk, h1 | h1⟩ | ⟨hk, _, h1⟩
       · obtain ⟨e1, e2⟩ := kn_inj h1
         obtain ⟨q1, q2, _⟩ := factIn_k0 (hu g hg) hk
         refine Or.inr (Or.inr ⟨e1, ho, ?_⟩)
         have : g = knF i.a n := by
           obtain ⟨gp, gt, g1, g2⟩ := g
           simp only at q1 q2 hga e2
           subst q1; subst q2; subst hga; subst e2; rfl
         rw [← this]; exact hg
       · injection h1 with _ h1; cases h1
       · injection h1 with h1
         rw [← h1] at hk; simp at hk
     · injection h1 with h1; rw [← h1] at h0; simp at h0
   · injection h1 with h1; rw [← h1] at h0; simp at h0
 intro t n n' h1 h2
 rcases key t n h1 with ⟨a1, a2⟩ | ⟨a1, a2, a3⟩ | ⟨a1, a2, a3⟩ <;> rcases key t n' h2 with ⟨b1, b2⟩ | ⟨b1, b2, b3⟩ | ⟨b1, b2, b3⟩
 · exact h _ _ _ a1 b1
 · exact absurd b1 a2
 · exact absurd b1 a2
 · exact absurd a1 b2
 · rw [a3, b3]
 · omega
 · exact absurd a1 b2
 · omega
 · exact h _ _ _ a3 b3
end

theorem Kn_uni {p : Pg} {sg : Int} {l : Pd} (hm : mayL p sg l = true) : ∀ k, Come p.code k → Uni (Kn p sg l k) := by
 obtain ⟨mB, tB, s0, s1, hl⟩ := mayL_facts hm
 apply Come.ind
 · intro t n n' h1 h2
   have e1 := ((Kn_sol (p := p) (sg := sg) (l := l)).1 _ h1).2
   have e2 := ((Kn_sol (p := p) (sg := sg) (l := l)).1 _ h2).2
   exact Eq.trans (b := 0) e1 e2.symm
 · intro k m hk hU hmk
   have hIn := Kn_in hm k hk
   have hkl := hk.lt (by have := mayB_len mB; omega)
   have hi := insOk (mayB_ins mB (inAt_mem hkl))
   obtain ⟨r1, r2, r3, _⟩ := rwB_facts (mayL_row hm hkl) hi.kn
   have hs := fun f h => (Kn_sol (p := p) (sg := sg) (l := l)).2 k hk m hmk f h
   have hM1 := movesF_in _ hIn r1
   have hU1 : Uni (movesF p (Kn p sg l k) (rwAt l.rows k).before) := fun t n n' a b => hU t n n' (movesF_kn _ hIn r1 a) (movesF_kn _ hIn r1 b)
   have hI : InU p sg l.slots (insF (movesF p (Kn p sg l k) (rwAt l.rows k).before) (inAt p.code k) (rwAt l.rows k).d) := by
     unfold insF
     split
     · rename_i hg
       exact giveF_in hM1 hi hg (r3 hg) (inAt_mem hkl)
     · exact hM1
   have hU2 : Uni (insF (movesF p (Kn p sg l k) (rwAt l.rows k).before) (inAt p.code k) (rwAt l.rows k).d) := by
     unfold insF
     split
     · rename_i hg
       exact giveF_uni hM1 (r3 hg).2 hU1
     · exact hU1
   intro t n n' a b
   exact hU2 t n n' (movesF_kn _ hI r2 (hs _ a)) (movesF_kn _ hI r2 (hs _ b))
end Go.Proofs.YtodmkjeankbieaaGreatDoor


namespace Go.Proofs.YtodmkjeankbieaaGreatDoor

section
variable {p : Pg} {sg sl sl' : Int}
end

end Go.Proofs.YtodmkjeankbieaaGreatDoor


namespace Go.Proofs.YtodmkjeankbieaaGreatDoor

def stC (s : Sto) : Array Value := (((List.range 16).map fun (t : Nat) => Value.int .u32 (s.sg t)) ++ (List.range 12).map fun (t : Nat) => Value.int .u64 (s.sl t)).toArray
theorem stC_sg {s : Sto} {t : Nat} (h : t < 16) : (stC s)[t]? = some (.int .u32 (s.sg t)) := by
 unfold stC
 rw [List.getElem?_toArray, List.getElem?_append_left (by simpa using h), List.getElem?_map, List.getElem?_range h]
 rfl
theorem stC_sl {s : Sto} {t : Nat} (h : t < 12) : (stC s)[16 + t]? = some (.int .u64 (s.sl t)) := by
 unfold stC
 rw [List.getElem?_toArray, List.getElem?_append_right (by simp), List.getElem?_map]
 rw [show 16 + t - (List.map (fun (t : Nat) => Value.int .u32 (s.sg t)) (List.range 16)).length = t by simp, List.getElem?_range h]
 rfl
theorem map_upd (n : Nat) (k : IntKind) (f : Int → Int) (t : Nat) (x : Int) : ((List.range n).map fun (i : Nat) => Value.int k (f i)).set t (.int k x) = (List.range n).map fun (i : Nat) => Value.int k (upd f t x i) := by
 apply List.ext_getElem
 · simp
 · intro i h1 h2
   simp at h1
   rw [List.getElem_set, List.getElem_map, List.getElem_map, List.getElem_range]
   unfold upd
   by_cases h : t = i
   · subst h; simp
   · rw [if_neg h, if_neg (by omega)]
theorem stC_setg {s : Sto} {t : Nat} (h : t < 16) (x : Int) : (stC s).setIfInBounds t (.int .u32 x) = stC { s with sg := upd s.sg t x } := by
 unfold stC
 rw [List.setIfInBounds_toArray, List.set_append_left _ _ (by simpa using h), map_upd]
theorem stC_setl {s : Sto} {t : Nat} (x : Int) : (stC s).setIfInBounds (16 + t) (.int .u64 x) = stC { s with sl := upd s.sl t x } := by
 unfold stC
 rw [List.setIfInBounds_toArray, List.set_append_right _ _ (by simp), show 16 + t - (List.map (fun (t : Nat) => Value.int .u32 (s.sg t)) (List.range 16)).length = t by simp, map_upd]
structure StOk (s : Sto) : Prop where
 sg : ∀ t, 0 ≤ s.sg t ∧ s.sg t < 4294967296
 sl : ∀ t, 0 ≤ s.sl t ∧ s.sl t < 18446744073709551616
theorem StOk.zero : StOk ⟨fun _ => 0, fun _ => 0⟩ := ⟨fun _ => by simp, fun _ => by simp⟩
theorem StOk.get {s : Sto} (h : StOk s) (a : PlaceV) : 0 ≤ getS s a ∧ getS s a < 18446744073709551616 := by
 unfold getS
 split
 · have := h.sg a.n; omega
 · split
   · have := h.sg (2 * a.n); have := h.sg (2 * a.n + 1); omega
   · split
     · exact h.sl a.n
     · omega
theorem StOk.put {s : Sto} (h : StOk s) (a : PlaceV) {v : Int} (hv : 0 ≤ v ∧ v < 18446744073709551616) : StOk (putS s a v) := by
 unfold putS
 split
 · refine ⟨fun t => ?_, h.sl⟩
   show 0 ≤ upd s.sg a.n (v % 4294967296) t ∧ upd s.sg a.n (v % 4294967296) t < 4294967296
   unfold upd; split
   · omega
   · exact h.sg t
 · split
   · refine ⟨fun t => ?_, h.sl⟩
     show 0 ≤ upd (upd s.sg (2 * a.n) (v % 4294967296)) (2 * a.n + 1) (v / 4294967296) t ∧ upd (upd s.sg (2 * a.n) (v % 4294967296)) (2 * a.n + 1) (v / 4294967296) t < 4294967296
     unfold upd; split
     · omega
     · split
       · omega
       · exact h.sg t
   · split
     · refine ⟨h.sg, fun t => ?_⟩
       show 0 ≤ upd s.sl a.n v t ∧ upd s.sl a.n v t < 18446744073709551616
       unfold upd; split
       · exact hv
       · exact h.sl t
     · exact h
end Go.Proofs.YtodmkjeankbieaaGreatDoor

