/- Texts of this claim, packed. -/
import Derived.Below
import Derived.Laws.OwnMore
import Derived.Deep.AppendLies
import Derived.Deep.Draws
import Derived.Maps.AppendAt
import Derived.OwnWalk
import Derived.Lib.QuietBelow
import Derived.Laws.Bits64
import Derived.IntWalk
import Derived.Maps.RangeWalk
import Derived.Maps.OwnSet
import Derived.DeepKeys4
import Derived.ArgAppend
set_option linter.all false
namespace Go.Proofs.Ytodmkjeankbieab
open Go.RowKit

theorem add_of_add (a : Addr) (i j : Nat) : (a.add i).add j = a.add (i + j) := by
 unfold Addr.add
 by_cases hi : i = 0 <;> by_cases hj : j = 0 <;> simp [hi, hj, Nat.add_assoc]

theorem cell_lt {w : World} {b o : Nat} {v : Value} (h : w.cell? ⟨b, o, none⟩ = some v) : b < w.heap.size := by
 unfold World.cell? at h
 rcases Nat.lt_or_ge b w.heap.size with hlt | hge
 · exact hlt
 · rw [Array.getElem?_eq_none hge] at h; cases h

structure Kept (S : Nat → Prop) (w w' : World) : Prop where
 os : w'.os = w.os
 tape : w'.tape = w.tape
 output : w'.output = w.output
 size : w.heap.size ≤ w'.heap.size
 block : ∀ k, k < w.heap.size → ¬ S k → w'.heap[k]? = w.heap[k]?

theorem Kept.refl (S : Nat → Prop) (w : World) : Kept S w w := ⟨rfl, rfl, rfl, Nat.le_refl _, fun _ _ _ => rfl⟩
theorem Kept.trans {S : Nat → Prop} {a b c : World} (h : Kept S a b) (k : Kept S b c) : Kept S a c :=
 ⟨k.os.trans h.os, k.tape.trans h.tape, k.output.trans h.output, Nat.le_trans h.size k.size, fun i hi hs => (k.block i (Nat.lt_of_lt_of_le hi h.size) hs).trans (h.block i hi hs)⟩
theorem Kept.then {S T : Nat → Prop} {a b c : World} (h : Kept S a b) (k : Kept T b c) (ht : ∀ i, i < a.heap.size → T i → S i) : Kept S a c :=
 ⟨k.os.trans h.os, k.tape.trans h.tape, k.output.trans h.output, Nat.le_trans h.size k.size, fun i hi hs => (k.block i (Nat.lt_of_lt_of_le hi h.size) (fun hc => hs (ht i hi hc))).trans (h.block i hi hs)⟩
theorem Kept.mono {S T : Nat → Prop} {a b : World} (h : Kept S a b) (hs : ∀ i, i < a.heap.size → S i → T i) : Kept T a b :=
 ⟨h.os, h.tape, h.output, h.size, fun i hi ht => h.block i hi fun hc => ht (hs i hi hc)⟩
theorem Kept.of_below {S : Nat → Prop} {B : Nat} {a b : World} (h : Below B a b) (hs : ∀ i, i < a.heap.size → B ≤ i → S i) : Kept S a b :=
 ⟨h.os, h.tape, h.output, h.size, fun i hi hn => h.block i (Nat.lt_of_not_le fun hc => hn (hs i hi hc))⟩
theorem Kept.below {S : Nat → Prop} {B : Nat} {a b : World} (h : Kept S a b) (hB : B ≤ a.heap.size) (hs : ∀ i, S i → B ≤ i) : Below B a b :=
 ⟨h.os, h.tape, h.output, h.size, fun k hk => h.block k (by omega) fun hc => by have := hs k hc; omega⟩
theorem Kept.alloc {S : Nat → Prop} {a w : World} (h : Kept S a w) (o : Obj) : Kept S a (w.alloc o) :=
 h.trans ⟨rfl, rfl, rfl, by simp, fun k hk _ => Below.heap_alloc _ _ _ (by omega)⟩
theorem Kept.setCell {S : Nat → Prop} {a w : World} (h : Kept S a w) {p : Addr} (hp : p.block < a.heap.size → S p.block) (u : Value) : Kept S a (w.setCell p u) :=
 ⟨h.os, h.tape, h.output, Nat.le_trans h.size (by simp [World.setCell]), fun k hk hs => (Below.heap_setCell _ _ _ _ (fun e => hs (by rw [e]; exact hp (by omega)))).trans (h.block k hk hs)⟩
theorem Kept.drew {S : Nat → Prop} {a w : World} (h : Kept S a w) : Kept S a w.drew := ⟨h.os, h.tape, h.output, h.size, h.block⟩
theorem Kept.grown {S : Nat → Prop} {a w w' : World} {row : Option Nat} (h : Kept S a w) (hg : w.grownBy w' row) (hr : ∀ k, k < a.heap.size → row = some k → S k) : Kept S a w' :=
 ⟨hg.os.trans h.os, hg.tape.trans h.tape, hg.output.trans h.output, Nat.le_trans h.size hg.size, fun k hk hs => (hg.block k (Nat.lt_of_lt_of_le hk h.size) (fun e => hs (hr k hk e.symm))).trans (h.block k hk hs)⟩
theorem Kept.cell {S : Nat → Prop} {w w' : World} (h : Kept S w w') {p : Addr} (hp : p.block < w.heap.size) (hs : ¬ S p.block) : w'.cell? p = w.cell? p :=
 World.cell?_of_block (w := w) (h.block p.block hp hs)

def Reads (w : World) (R : Nat → Prop) (size : Nat) (A : Option Addr) (n : Nat) (xs : List Value) : Prop :=
 xs.length = n * size ∧ (0 < n → ∃ b off, A = some ⟨b, off, none⟩ ∧ R b ∧ ∀ j u, xs[j]? = some u → w.cell? ⟨b, off + j, none⟩ = some u)

section
variable {w w' : World} {R R' : Nat → Prop} {size n : Nat} {A : Option Addr} {xs : List Value}
theorem Reads.none_ : Reads w R size A 0 [] := ⟨by simp, fun h => absurd h (by omega)⟩
theorem Reads.keep (h : Reads w R size A n xs) (hk : ∀ p : Addr, R p.block → w'.cell? p = w.cell? p) : Reads w' R size A n xs :=
 ⟨h.1, fun hn => by
   obtain ⟨b, off, e, hb, hc⟩ := h.2 hn
   exact ⟨b, off, e, hb, fun j u hu => (hk _ hb).trans (hc j u hu)⟩⟩
theorem Reads.more (h : Reads w R size A n xs) (hB : ∀ b, R b → R' b) : Reads w R' size A n xs :=
 ⟨h.1, fun hn => by
   obtain ⟨b, off, e, hb, hc⟩ := h.2 hn
   exact ⟨b, off, e, hB _ hb, hc⟩⟩
theorem Reads.kept {S : Nat → Prop} (h : Reads w R size A n xs) (hk : Kept S w w') (hs : ∀ b, R b → ¬ S b) : Reads w' R size A n xs :=
 ⟨h.1, fun hn => by
   obtain ⟨b, off, e, hb, hc⟩ := h.2 hn
   exact ⟨b, off, e, hb, fun j u hu => (hk.cell (p := ⟨b, off + j, none⟩) (cell_lt (hc j u hu)) (hs b hb)).trans (hc j u hu)⟩⟩
end

def Blk (w : World) (g : Nat) (t : TypeId) (cs : Array Value) : Prop := w.heap[g]? = some (.cells cs t (0, 0))

section
variable {w w' : World} {g : Nat} {t : TypeId} {cs : Array Value}
theorem Blk.lt (h : Blk w g t cs) : g < w.heap.size := by
 rcases Nat.lt_or_ge g w.heap.size with hlt | hge
 · exact hlt
 · unfold Blk at h; rw [Array.getElem?_eq_none hge] at h; cases h
theorem Blk.cell (h : Blk w g t cs) (i : Nat) : w.cell? ⟨g, i, none⟩ = cs[i]? := cell_of_row w g i cs t (0, 0) h
theorem Blk.frozen (h : Blk w g t cs) (i : Nat) : w.frozen? ⟨g, i, none⟩ = false := by
 unfold Blk at h
 simp [World.frozen?, h]
theorem Blk.new (w : World) (t : TypeId) (cs : Array Value) : Blk (w.alloc (.cells cs t)) w.heap.size t cs := heap_alloc_new w _
theorem Blk.drew (h : Blk w g t cs) : Blk w.drew g t cs := h
theorem Blk.alloc (h : Blk w g t cs) (o : Obj) : Blk (w.alloc o) g t cs := (Below.heap_alloc w o g h.lt).trans h
theorem Blk.set_ (h : Blk w g t cs) (i : Nat) (u : Value) : Blk (w.setCell ⟨g, i, none⟩ u) g t (cs.setIfInBounds i u) := by
 unfold Blk at h ⊢
 simp [World.setCell, Array.getElem?_modify, h]
theorem Blk.far (h : Blk w g t cs) {p : Addr} (hp : g ≠ p.block) (u : Value) : Blk (w.setCell p u) g t cs := (Below.heap_setCell w p u g hp).trans h
theorem Blk.below {B : Nat} (h : Blk w g t cs) (hb : Below B w w') (hg : g < B) : Blk w' g t cs := (hb.block g hg).trans h
theorem Blk.kept {S : Nat → Prop} (h : Blk w g t cs) (hb : Kept S w w') (hg : ¬ S g) : Blk w' g t cs := (hb.block g h.lt hg).trans h
theorem Blk.grown {row : Option Nat} (h : Blk w g t cs) (hb : w.grownBy w' row) (hg : some g ≠ row) : Blk w' g t cs := (hb.block g h.lt hg).trans h
theorem Blk.ne_ {g' : Nat} {t' : TypeId} {cs' : Array Value} (h : Blk w g t cs) (h' : Blk w g' t' cs') (hne : t ≠ t') : g ≠ g' := by
 rintro rfl
 unfold Blk at h h'
 rw [h] at h'
 injection h' with h'
 injection h' with _ ht
 exact hne ht
theorem own_blk_ne {base : Nat} {e : TypeId} {size n : Nat} {v : Value} {xs : List Value} (h : w.ownsRow base e size v n xs) (hg : Blk w g t cs) (hne : e ≠ t) : v.ownBlock ≠ some g := by
 rcases h.2 with ⟨rfl, _⟩ | ⟨g', cap, cur, rfl, _, hh, _⟩
 · simp [Value.ownBlock]
 · intro he
   have : g' = g := by simpa [Value.ownBlock] using he
   subst this
   exact Blk.ne_ (t := e) hh hg hne rfl
end

theorem own_kept {w w' : World} {S : Nat → Prop} {base : Nat} {e : TypeId} {size n : Nat} {v : Value} {xs : List Value} (h : w.ownsRow base e size v n xs) (hk : Kept S w w')
   (hs : ∀ g, v.ownBlock = some g → ¬ S g) : w'.ownsRow base e size v n xs := by
 obtain ⟨h1, h2⟩ := h
 refine ⟨h1, ?_⟩
 rcases h2 with h2 | ⟨g, cap, cur, hv, hg, hh, r⟩
 · exact Or.inl h2
 · have hlt : g < w.heap.size := (Array.getElem?_eq_some_iff.1 hh).1
   exact Or.inr ⟨g, cap, cur, hv, hg, by rw [hk.block g hlt (hs g (by rw [hv]; rfl))]; exact hh, r⟩

theorem own_lt {w : World} {base : Nat} {e : TypeId} {size n : Nat} {v : Value} {xs : List Value} (h : w.ownsRow base e size v n xs) {g : Nat} (hg : v.ownBlock = some g) : base ≤ g ∧ g < w.heap.size := by
 rcases h.2 with ⟨rfl, _⟩ | ⟨g', cap, cur, rfl, hb, hh, _⟩
 · simp [Value.ownBlock] at hg
 · have : g' = g := by simpa [Value.ownBlock] using hg
   subst this
   exact ⟨hb, (Array.getElem?_eq_some_iff.1 hh).1⟩

theorem flat_len {α : Type} (f : α → List Value) (s : Nat) (hs : ∀ x, (f x).length = s) : ∀ l : List α, (l.flatMap f).length = l.length * s
 | [] => by simp
 | x :: l => by rw [List.flatMap_cons, List.length_append, hs, flat_len f s hs l, List.length_cons, Nat.succ_mul]; omega
theorem flat_get {α : Type} (f : α → List Value) (s : Nat) (hs : ∀ x, (f x).length = s) : ∀ (l : List α) (k j : Nat) (x : α), l[k]? = some x → j < s → (l.flatMap f)[k * s + j]? = (f x)[j]?
 | [], k, j, x, h, _ => by simp at h
 | y :: l, 0, j, x, h, hj => by
   simp at h
   subst h
   rw [List.flatMap_cons, Nat.zero_mul, Nat.zero_add, List.getElem?_append_left (by rw [hs]; exact hj)]
 | y :: l, k + 1, j, x, h, hj => by
   rw [List.flatMap_cons, List.getElem?_append_right (by rw [hs, Nat.succ_mul]; omega), hs]
   have e : (k + 1) * s + j - s = k * s + j := by rw [Nat.succ_mul]; omega
   rw [e]
   exact flat_get f s hs l k j x (by simpa using h) hj

theorem Reads.elem {α : Type} {w : World} {R : Nat → Prop} {A : Option Addr} {n : Nat} {f : α → List Value} {s : Nat} {l : List α} (h : Reads w R s A n (l.flatMap f)) (hs : ∀ x, (f x).length = s) (h0 : 0 < s) :
   n = l.length ∧ (0 < n → ∃ b off, A = some ⟨b, off, none⟩ ∧ R b ∧ ∀ k x, l[k]? = some x → ∀ j u, (f x)[j]? = some u → w.cell? ⟨b, off + (k * s + j), none⟩ = some u) := by
 have e : n = l.length := by
   have := h.1
   rw [flat_len f s hs] at this
   exact Nat.eq_of_mul_eq_mul_right h0 this.symm
 refine ⟨e, fun hn => ?_⟩
 obtain ⟨b, off, hA, hR, hc⟩ := h.2 hn
 refine ⟨b, off, hA, hR, fun k x hx j u hu => hc _ u ?_⟩
 have hj : j < s := by
   rcases Nat.lt_or_ge j s with hj | hj
   · exact hj
   · rw [List.getElem?_eq_none (by rw [hs]; exact hj)] at hu; cases hu
 rw [flat_get f s hs l k j x hx hj]
 exact hu

abbrev Fr (w w' : World) : Prop := Kept (fun _ => False) w w'
theorem Fr.below {w w' : World} (h : Fr w w') : Below w.heap.size w w' := Kept.below h (Nat.le_refl _) (fun _ h => h.elim)
theorem Fr.of_below {w w' : World} (h : Below w.heap.size w w') : Fr w w' := Kept.of_below h (fun _ hi hb => absurd hb (by omega))
theorem Fr.cell {w w' : World} (h : Fr w w') {b o : Nat} (hb : b < w.heap.size) : w'.cell? ⟨b, o, none⟩ = w.cell? ⟨b, o, none⟩ := Kept.cell h hb (fun h => h)
theorem Kept.of_fr {S : Nat → Prop} {w w' : World} (h : Fr w w') : Kept S w w' := Kept.mono h (fun _ _ h => h.elim)

def inI (n : Int) : Prop := -9223372036854775808 ≤ n ∧ n ≤ 9223372036854775807

structure PlaceV where
 k : Int
 n : Int
 deriving DecidableEq
def PlaceV.cells (p : PlaceV) : List Value := [.int .i64 p.k, .int .i64 p.n]
def PlaceV.val (p : PlaceV) : Value := .agg #[.int .i64 p.k, .int .i64 p.n]
def PlaceV.ok (p : PlaceV) : Prop := inI p.k ∧ inI p.n

structure Mv where
 to : PlaceV
 fr : PlaceV
 c : Bool
 n : Nat
 deriving DecidableEq
def Mv.cells (m : Mv) : List Value := [.int .i64 m.to.k, .int .i64 m.to.n, .int .i64 m.fr.k, .int .i64 m.fr.n, .bool m.c, .int .u32 m.n]
def Mv.ok (m : Mv) : Prop := m.to.ok ∧ m.fr.ok ∧ m.n < 4294967296
theorem Mv.len (m : Mv) : m.cells.length = 6 := rfl

theorem Reads.mv {w : World} {R : Nat → Prop} {A : Option Addr} {n k : Nat} {l : List Mv} {m : Mv} (h : Reads w R 6 A n (l.flatMap Mv.cells)) (hm : l[k]? = some m) :
   ∃ b off, A = some ⟨b, off, none⟩ ∧ R b ∧ w.cell? ⟨b, off + k * 6, none⟩ = some (.int .i64 m.to.k) ∧ w.cell? ⟨b, off + k * 6 + 1, none⟩ = some (.int .i64 m.to.n) ∧ w.cell? ⟨b, off + k * 6 + 2, none⟩ = some (.int .i64 m.fr.k) ∧
     w.cell? ⟨b, off + k * 6 + 3, none⟩ = some (.int .i64 m.fr.n) ∧ w.cell? ⟨b, off + k * 6 + 4, none⟩ = some (.bool m.c) ∧ w.cell? ⟨b, off + k * 6 + 5, none⟩ = some (.int .u32 m.n) := by
 obtain ⟨e, h2⟩ := h.elem Mv.len (by omega)
 have hk : k < l.length := (List.getElem?_eq_some_iff.1 hm).1
 obtain ⟨b, off, hA, hR, hc⟩ := h2 (by omega)
 exact ⟨b, off, hA, hR, hc k m hm 0 _ rfl, hc k m hm 1 _ rfl, hc k m hm 2 _ rfl, hc k m hm 3 _ rfl, hc k m hm 4 _ rfl, hc k m hm 5 _ rfl⟩

structure Rw where
 d : PlaceV
 a : PlaceV
 b : PlaceV
 before : List Mv
 after : List Mv
 deriving DecidableEq

structure RwV where
 r : Rw
 vb : Value
 va : Value
def RwV.cells (x : RwV) : List Value := [.int .i64 x.r.d.k, .int .i64 x.r.d.n, .int .i64 x.r.a.k, .int .i64 x.r.a.n, .int .i64 x.r.b.k, .int .i64 x.r.b.n, x.vb, x.va]
theorem RwV.len (m : RwV) : m.cells.length = 8 := rfl

theorem Reads.rw {w : World} {R : Nat → Prop} {A : Option Addr} {n k : Nat} {l : List RwV} {m : RwV} (h : Reads w R 8 A n (l.flatMap RwV.cells)) (hm : l[k]? = some m) :
   ∃ b off, A = some ⟨b, off, none⟩ ∧ R b ∧ w.cell? ⟨b, off + k * 8, none⟩ = some (.int .i64 m.r.d.k) ∧ w.cell? ⟨b, off + k * 8 + 1, none⟩ = some (.int .i64 m.r.d.n) ∧ w.cell? ⟨b, off + k * 8 + 2, none⟩ = some (.int .i64 m.r.a.k) ∧
     w.cell? ⟨b, off + k * 8 + 3, none⟩ = some (.int .i64 m.r.a.n) ∧ w.cell? ⟨b, off + k * 8 + 4, none⟩ = some (.int .i64 m.r.b.k) ∧ w.cell? ⟨b, off + k * 8 + 5, none⟩ = some (.int .i64 m.r.b.n) ∧
     w.cell? ⟨b, off + k * 8 + 6, none⟩ = some m.vb ∧ w.cell? ⟨b, off + k * 8 + 7, none⟩ = some m.va := by
 obtain ⟨e, h2⟩ := h.elem RwV.len (by omega)
 have hk : k < l.length := (List.getElem?_eq_some_iff.1 hm).1
 obtain ⟨b, off, hA, hR, hc⟩ := h2 (by omega)
 exact ⟨b, off, hA, hR, hc k m hm 0 _ rfl, hc k m hm 1 _ rfl, hc k m hm 2 _ rfl, hc k m hm 3 _ rfl, hc k m hm 4 _ rfl, hc k m hm 5 _ rfl, hc k m hm 6 _ rfl, hc k m hm 7 _ rfl⟩

def RdMv (w : World) (R : Nat → Prop) (v : Value) (l : List Mv) : Prop :=
 ∃ A c, v = .slice A l.length c ∧ l.length ≤ maxLen ∧ Reads w R 6 A l.length (l.flatMap Mv.cells) ∧ ∀ m ∈ l, m.ok
def RwV.ok (w : World) (R : Nat → Prop) (x : RwV) : Prop :=
 x.r.d.ok ∧ x.r.a.ok ∧ x.r.b.ok ∧ RdMv w R x.vb x.r.before ∧ RdMv w R x.va x.r.after
def RdRw (w : World) (R : Nat → Prop) (v : Value) (l : List RwV) : Prop :=
 ∃ A c, v = .slice A l.length c ∧ l.length ≤ maxLen ∧ Reads w R 8 A l.length (l.flatMap RwV.cells) ∧ ∀ x ∈ l, x.ok w R

structure Pd where
 slots : Int
 rows : List Rw
 deriving DecidableEq

def RdPd (w : World) (R : Nat → Prop) (v : Value) (p : Pd) : Prop :=
 ∃ vr l, v = .agg #[.int .i64 p.slots, vr] ∧ inI p.slots ∧ RdRw w R vr l ∧ p.rows = l.map (·.r)

structure In where
 op : Int
 d : Int
 a : Int
 b : Int
 c : Int
 n : Nat
 deriving DecidableEq
def In.cells (i : In) : List Value := [.int .i64 i.op, .int .i64 i.d, .int .i64 i.a, .int .i64 i.b, .int .i64 i.c, .int .u32 i.n]
theorem In.len (m : In) : m.cells.length = 6 := rfl
def In.val (i : In) : Value := .agg #[.int .i64 i.op, .int .i64 i.d, .int .i64 i.a, .int .i64 i.b, .int .i64 i.c, .int .u32 i.n]
def In.ok (i : In) : Prop := inI i.op ∧ inI i.d ∧ inI i.a ∧ inI i.b ∧ inI i.c ∧ i.n < 4294967296

def RdIn (w : World) (R : Nat → Prop) (v : Value) (l : List In) : Prop :=
 ∃ A c, v = .slice A l.length c ∧ l.length ≤ maxLen ∧ Reads w R 6 A l.length (l.flatMap In.cells) ∧ ∀ m ∈ l, m.ok
def RdBo (w : World) (R : Nat → Prop) (v : Value) (l : List Bool) : Prop :=
 ∃ A c, v = .slice A l.length c ∧ l.length ≤ maxLen ∧ Reads w R 1 A l.length (l.map Value.bool)
def RdInt (k : IntKind) (w : World) (R : Nat → Prop) (v : Value) (l : List Int) : Prop :=
 ∃ A c, v = .slice A l.length c ∧ l.length ≤ maxLen ∧ Reads w R 1 A l.length (l.map (Value.int k)) ∧ ∀ n ∈ l, (Lit.int k n).wf = true

structure Pg where
 wide : List Bool
 code : List In
 deriving DecidableEq
def RdPg (w : World) (R : Nat → Prop) (v : Value) (p : Pg) : Prop :=
 ∃ vw vc, v = .agg #[vw, vc] ∧ RdBo w R vw p.wide ∧ RdIn w R vc p.code

section
variable {w : World} {R R' : Nat → Prop} {v : Value}
theorem RdMv.more {l : List Mv} (h : RdMv w R v l) (hs : ∀ b, R b → R' b) : RdMv w R' v l :=
 let ⟨A, c, e, hl, hr, ho⟩ := h
 ⟨A, c, e, hl, hr.more hs, ho⟩
theorem RwV.ok.more {x : RwV} (h : x.ok w R) (hs : ∀ b, R b → R' b) : x.ok w R' :=
 ⟨h.1, h.2.1, h.2.2.1, h.2.2.2.1.more hs, h.2.2.2.2.more hs⟩
theorem RdRw.more {l : List RwV} (h : RdRw w R v l) (hs : ∀ b, R b → R' b) : RdRw w R' v l :=
 let ⟨A, c, e, hl, hr, ho⟩ := h
 ⟨A, c, e, hl, hr.more hs, fun x hx => (ho x hx).more hs⟩
theorem RdPd.more {p : Pd} (h : RdPd w R v p) (hs : ∀ b, R b → R' b) : RdPd w R' v p :=
 let ⟨vr, l, e, hi, hr, ho⟩ := h
 ⟨vr, l, e, hi, hr.more hs, ho⟩
end

section
variable {w w' : World} {R S : Nat → Prop} {v : Value}
theorem RdMv.kept {l : List Mv} (h : RdMv w R v l) (hk : Kept S w w') (hs : ∀ b, R b → ¬ S b) : RdMv w' R v l :=
 let ⟨A, c, e, hl, hr, ho⟩ := h
 ⟨A, c, e, hl, hr.kept hk hs, ho⟩
theorem RwV.ok.kept {x : RwV} (h : x.ok w R) (hk : Kept S w w') (hs : ∀ b, R b → ¬ S b) : x.ok w' R :=
 ⟨h.1, h.2.1, h.2.2.1, h.2.2.2.1.kept hk hs, h.2.2.2.2.kept hk hs⟩
theorem RdRw.kept {l : List RwV} (h : RdRw w R v l) (hk : Kept S w w') (hs : ∀ b, R b → ¬ S b) : RdRw w' R v l :=
 let ⟨A, c, e, hl, hr, ho⟩ := h
 ⟨A, c, e, hl, hr.kept hk hs, fun x hx => (ho x hx).kept hk hs⟩
theorem RdPd.kept {p : Pd} (h : RdPd w R v p) (hk : Kept S w w') (hs : ∀ b, R b → ¬ S b) : RdPd w' R v p :=
 let ⟨vr, l, e, hi, hr, ho⟩ := h
 ⟨vr, l, e, hi, hr.kept hk hs, ho⟩
theorem RdIn.kept {l : List In} (h : RdIn w R v l) (hk : Kept S w w') (hs : ∀ b, R b → ¬ S b) : RdIn w' R v l :=
 let ⟨A, c, e, hl, hr, ho⟩ := h
 ⟨A, c, e, hl, hr.kept hk hs, ho⟩
theorem RdBo.kept {l : List Bool} (h : RdBo w R v l) (hk : Kept S w w') (hs : ∀ b, R b → ¬ S b) : RdBo w' R v l :=
 let ⟨A, c, e, hl, hr⟩ := h
 ⟨A, c, e, hl, hr.kept hk hs⟩
theorem RdInt.kept {k : IntKind} {l : List Int} (h : RdInt k w R v l) (hk : Kept S w w') (hs : ∀ b, R b → ¬ S b) : RdInt k w' R v l :=
 let ⟨A, c, e, hl, hr, ho⟩ := h
 ⟨A, c, e, hl, hr.kept hk hs, ho⟩
theorem RdPg.kept {p : Pg} (h : RdPg w R v p) (hk : Kept S w w') (hs : ∀ b, R b → ¬ S b) : RdPg w' R v p :=
 let ⟨vw, vc, e, h1, h2⟩ := h
 ⟨vw, vc, e, h1.kept hk hs, h2.kept hk hs⟩
end

end Go.Proofs.Ytodmkjeankbieab


namespace Go.Proofs.Ytodmkjeankbieab

def shape (op : Int) : List UInt8 :=
 if op = 1 then [110, 45, 45, 45, 110] else if op = 2 then [120, 120, 45, 45, 45] else if op = 3 then [110, 45, 45, 45, 45] else if op = 4 then [45, 110, 45, 45, 45]
 else if op = 5 then [119, 110, 110, 45, 45] else if op = 6 then [110, 119, 45, 45, 45] else if op = 7 then [110, 119, 45, 45, 45] else if op = 8 then [45, 45, 45, 99, 45]
 else if op = 9 then [45, 110, 45, 99, 45] else if op = 10 then [45, 45, 45, 45, 45] else if 20 < op ∧ op ≤ 26 then [110, 110, 110, 45, 45] else if 40 < op ∧ op ≤ 45 then [119, 119, 119, 45, 45] else []
def known (op : Int) : Bool := decide (1 ≤ op ∧ op ≤ 10 ∨ 21 ≤ op ∧ op ≤ 26 ∨ 41 ≤ op ∧ op ≤ 45)
def gvs (op : Int) : Bool := decide (op ≠ 4 ∧ op ≠ 8 ∧ op ≠ 9 ∧ op ≠ 10)
def many (op : Int) : Nat :=
 if op = 1 ∨ op = 3 ∨ op = 8 ∨ op = 10 then 0 else if op = 2 ∨ op = 4 ∨ op = 6 ∨ op = 7 ∨ op = 9 then 1 else 2
def uses (i : In) : List Int := [i.a, i.b].take (many i.op)
def nexts (i : In) (at_ : Int) : List Int :=
 if i.op = 8 then [i.c] else if i.op = 10 then [] else if i.op = 9 then [at_ + 1, i.c] else [at_ + 1]

theorem known_cases {op : Int} (h : known op = true) : op = 1 ∨ op = 2 ∨ op = 3 ∨ op = 4 ∨ op = 5 ∨ op = 6 ∨ op = 7 ∨ op = 8 ∨ op = 9 ∨ op = 10 ∨ (20 < op ∧ op ≤ 26) ∨ (40 < op ∧ op ≤ 45) := by
 unfold known at h
 have := of_decide_eq_true h
 omega

def wd (wide : List Bool) (n : Int) : Bool := wide.getD n.toNat false
def tempB (wide : List Bool) (n : Int) (l : UInt8) : Bool :=
 if l = 45 then decide (n = 0) else decide (0 ≤ n ∧ n < wide.length) && (decide (l = 120) || (wd wide n == decide (l = 119)))

def insB (p : Pg) (i : In) : Bool :=
 known i.op && (tempB p.wide i.d ((shape i.op).getD 0 0) && tempB p.wide i.a ((shape i.op).getD 1 0) && tempB p.wide i.b ((shape i.op).getD 2 0)) &&
   !(decide (i.op = 2) && (wd p.wide i.d != wd p.wide i.a)) &&
   ((if (shape i.op).getD 3 0 = 99 then decide (0 ≤ i.c ∧ i.c < p.code.length) else decide (i.c = 0)) && (decide ((shape i.op).getD 4 0 = 110) || decide (i.n = 0)))

def mayB (p : Pg) : Bool :=
 p.code.all (insB p) && decide (1 ≤ p.wide.length) && decide (p.wide.length ≤ 12) && decide (1 ≤ p.code.length) && decide (p.code.length ≤ 40)

def inB (n : Int) (l : Nat) : Bool := decide (0 ≤ n ∧ n < l)
def kinds (p : Pg) (i : In) : List Bool := (if gvs i.op then [wd p.wide i.d] else []) ++ (uses i).map (wd p.wide)
def widthsR (p : Pg) (i : In) : Bool :=
 if i.op = 2 then (kinds p i).getD 0 false == (kinds p i).getD 1 false
 else if i.op = 5 then (kinds p i).getD 0 false && !(kinds p i).getD 1 false && !(kinds p i).getD 2 false
 else if i.op = 6 ∨ i.op = 7 then !(kinds p i).getD 0 false && (kinds p i).getD 1 false
 else (kinds p i).all fun x => x == decide (40 < i.op)
def fieldR (wide : List Bool) (there : Bool) (n : Int) : Bool := if there then inB n wide.length else decide (n = 0)
def insR (p : Pg) (i : In) : Bool :=
 known i.op && (decide (i.op = 1) || decide (i.n = 0)) &&
   (fieldR p.wide (gvs i.op) i.d && fieldR p.wide (decide (0 < many i.op)) i.a && fieldR p.wide (decide (1 < many i.op)) i.b) &&
   (if i.op = 8 ∨ i.op = 9 then inB i.c p.code.length else decide (i.c = 0)) && widthsR p i
def mayR (p : Pg) : Bool :=
 decide (1 ≤ p.wide.length) && decide (p.wide.length ≤ 12) && decide (1 ≤ p.code.length) && decide (p.code.length ≤ 40) && p.code.all (insR p)

theorem insR_known {p : Pg} {i : In} (h : insR p i = true) : known i.op = true := by
 unfold insR at h
 simp only [Bool.and_eq_true] at h
 exact h.1.1.1.1

theorem shape_op {op : Int} (h1 : 20 < op) (h2 : op ≤ 26) : shape op = [110, 110, 110, 45, 45] := by
 unfold shape
 iterate 10 rw [if_neg (by omega)]
 rw [if_pos ⟨h1, h2⟩]
theorem shape_wide {op : Int} (h1 : 40 < op) (h2 : op ≤ 45) : shape op = [119, 119, 119, 45, 45] := by
 unfold shape
 iterate 11 rw [if_neg (by omega)]
 rw [if_pos ⟨h1, h2⟩]
theorem gvs_op {op : Int} (h1 : 20 < op) : gvs op = true := by unfold gvs; exact decide_eq_true (by omega)
theorem many_op {op : Int} (h1 : 20 < op) : many op = 2 := by
 unfold many
 rw [if_neg (by omega), if_neg (by omega)]

set_option maxHeartbeats 1000000 in
theorem insB_eq (p : Pg) (i : In) : insB p i = insR p i := by
 obtain ⟨op, d, a, b, c, n⟩ := i
 cases hk : known op with
 | false => simp [insB, insR, hk]
 | true =>
   have h := known_cases hk
   unfold insB insR
   simp only [hk, Bool.true_and]
   rcases h with rfl | rfl | rfl | rfl | rfl | rfl | rfl | rfl | rfl | rfl | ⟨h1, h2⟩ | ⟨h1, h2⟩
   case inr.inl =>
     simp [shape, gvs, many, widthsR, kinds, uses, tempB, fieldR, inB, Bool.and_assoc]
     cases wd p.wide d <;> cases wd p.wide a <;> simp <;> ac_rfl
   case inr.inr.inr.inr.inr.inr.inr.inr.inr.inr.inl =>
     have e1 : ¬ op = 1 := by omega
     have e2 : ¬ op = 2 := by omega
     have e3 : ¬ op = 5 := by omega
     have e4 : ¬ (op = 6 ∨ op = 7) := by omega
     have e5 : ¬ (op = 8 ∨ op = 9) := by omega
     have e6 : ¬ (40 < op) := by omega
     rw [shape_op h1 h2]
     simp only [widthsR, kinds, uses, gvs_op h1, many_op h1, e1, e2, e3, e4, e5, e6]
     simp [tempB, fieldR, inB, Bool.and_assoc]
     ac_rfl
   case inr.inr.inr.inr.inr.inr.inr.inr.inr.inr.inr =>
     have e1 : ¬ op = 1 := by omega
     have e2 : ¬ op = 2 := by omega
     have e3 : ¬ op = 5 := by omega
     have e4 : ¬ (op = 6 ∨ op = 7) := by omega
     have e5 : ¬ (op = 8 ∨ op = 9) := by omega
     have h3 : 20 < op := by omega
     rw [shape_wide h1 h2]
     simp only [widthsR, kinds, uses, gvs_op h3, many_op h3, e1, e2, e3, e4, e5, h1]
     simp [tempB, fieldR, inB, Bool.and_assoc]
     ac_rfl
   all_goals
     simp [shape, gvs, many, widthsR, kinds, uses, tempB, fieldR, inB, Bool.and_assoc]
     try ac_rfl

theorem mayB_eq (p : Pg) : mayB p = mayR p := by
 unfold mayB mayR
 rw [show insB p = insR p from funext (insB_eq p)]
 ac_rfl

end Go.Proofs.Ytodmkjeankbieab


namespace Go.Proofs.Ytodmkjeankbieab
open Go.RowKit Go.Sort

structure SlTy (P : Program) (t e : TypeId) (size bytes : Nat) : Prop where
 ht : P.underlying t = some (.slice e)
 ex : ∃ i z, P.info? e = some i ∧ i.zero = some z ∧ i.size = size ∧ i.bytes = bytes ∧ z.cells.size = size
 pos : 0 < size

theorem SlTy.mk' {P : Program} {t e : TypeId} {size bytes : Nat} {z : Value} (ht : P.underlying t = some (.slice e)) (h : (P.info? e).map (fun i => (i.zero, i.size, i.bytes)) = some (some z, size, bytes)) (hz : z.cells.size = size) (hp : 0 < size) :
   SlTy P t e size bytes := by
 refine ⟨ht, ?_, hp⟩
 cases hi : P.info? e with
 | none => rw [hi] at h; simp at h
 | some i =>
   rw [hi] at h
   simp only [Option.map_some, Option.some.injEq, Prod.mk.injEq] at h
   exact ⟨i, z, rfl, h.1, h.2.1, h.2.2, hz⟩

theorem ret_b {a b : Bool} (h : a = b) : Ending.returned (.bool a) = .returned (.bool b) := by rw [h]
theorem ret_i {k : IntKind} {a b : Int} (h : a = b) : Ending.returned (.int k a) = .returned (.int k b) := by rw [h]
theorem add_none (b off j : Nat) : (⟨b, off, none⟩ : Addr).add j = ⟨b, off + j, none⟩ := by
 unfold Addr.add
 by_cases h : j = 0 <;> simp [h]

theorem Reads.lit (w : World) (R : Nat → Prop) (e : TypeId) (size n : Nat) (cs : Array Value) (hR : R w.heap.size) (hl : cs.size = n * size) :
   Reads (w.alloc (.cells cs e)) R size (some ⟨w.heap.size, 0, none⟩) n cs.toList := by
 refine ⟨by simpa using hl, fun _ => ⟨_, _, rfl, hR, fun j u hu => ?_⟩⟩
 rw [Nat.zero_add, (Blk.new w e cs).cell]
 simpa using hu

theorem Reads.lit' {w : World} {R : Nat → Prop} {e : TypeId} {size n g : Nat} {cs : Array Value} (hg : g = w.heap.size) (hR : R g) (hl : cs.size = n * size) :
   Reads (w.alloc (.cells cs e)) R size (some ⟨g, 0, none⟩) n cs.toList := by
 subst hg
 exact Reads.lit w R e size n cs hR hl

section
variable {P : Program} (w : World)

theorem run_app {base : Nat} {t ty e : TypeId} {size bytes : Nat} (hT : SlTy P t e size bytes)
   (v : Value) (n : Nat) (xs : List Value) (hown : w.ownsRow base e size v n xs)
   (R : Nat → Prop) (A : Option Addr) (m c : Nat) (news : List Value) (hr : Reads w R size A m news) (h1 : ∀ u ∈ news, u.oneCell' = true)
   (hbytes : (n + m) * bytes ≤ 140737488355328) (h63 : n + m ≤ maxLen) (hbase : base ≤ w.heap.size) :
   ∃ v' w', (Builtin.append_ #[t, t] ty #[v, .slice A m c]).run P w = .ok v' w' ∧ w'.ownsRow base e size v' (n + m) (xs ++ news) ∧ w.grownBy w' v.ownBlock ∧
     (v'.ownBlock = v.ownBlock ∨ v'.ownBlock = some w.heap.size) := by
 obtain ⟨i, z, hi, hz, hsize, hby, hzs⟩ := hT.ex
 rcases Nat.eq_zero_or_pos m with h0 | h0
 · subst h0
   have hn : news = [] := List.eq_nil_of_length_eq_zero (by simpa using hr.1)
   subst hn
   rcases A with _ | ad
   · refine ⟨v, w, ?_, by simpa using hown, World.grownBy.refl w _, .inl rfl⟩
     rcases hown.2 with ⟨rfl, rfl⟩ | ⟨g, cap, cur, rfl, _, _, hnc, _⟩
     · simp [Builtin.append_, run_underlying hT.ht, sizeOf, typeInfo, hi, Builtin.lenOf, Builtin.firstCells]
     · simp [Builtin.append_, run_underlying hT.ht, sizeOf, typeInfo, hi, Builtin.lenOf, Builtin.firstCells, hnc, storeCells]
   · obtain ⟨v', w', hrun, h2, h3, _, h5⟩ := run_append_own_at (P := P) w base t ty e i z size bytes hT.ht hi hz hsize hby hzs hT.pos v n xs hown ad 0 c [] (by simp) (by simp) (by simp) h63 hbytes hbase
     exact ⟨v', w', hrun, h2, h3, h5⟩
 · obtain ⟨b, off, rfl, _, hc⟩ := hr.2 h0
   obtain ⟨v', w', hrun, h2, h3, _, h5⟩ := run_append_own_at (P := P) w base t ty e i z size bytes hT.ht hi hz hsize hby hzs hT.pos v n xs hown ⟨b, off, none⟩ m c news hr.1
     (fun j u hu => by rw [add_none]; exact hc j u hu) h1 h63 hbytes hbase
   exact ⟨v', w', hrun, h2, h3, h5⟩

theorem wp_app {o : Oper} {a : Act} {K : Act → World → Prop} {Q : Exit → Act → World → Prop} {base : Nat} {t e : TypeId} {size bytes : Nat} (hT : SlTy P t e size bytes) (s x : Operand)
   (ho : o.op = .call { callee := .builtin .append, args := #[s, x], argTypes := #[t, t] })
   (v : Value) (n : Nat) (xs : List Value) (hs : a.eval s = v) (hown : w.ownsRow base e size v n xs)
   (R : Nat → Prop) (A : Option Addr) (m c : Nat) (news : List Value) (hx : a.eval x = .slice A m c) (hr : Reads w R size A m news) (h1 : ∀ u ∈ news, u.oneCell' = true)
   (hbytes : (n + m) * bytes ≤ 140737488355328) (h63 : n + m ≤ maxLen) (hbase : base ≤ w.heap.size)
   (h : ∀ v' w', w'.ownsRow base e size v' (n + m) (xs ++ news) → Kept (fun k => v.ownBlock = some k) w w' → (v'.ownBlock = v.ownBlock ∨ v'.ownBlock = some w.heap.size) → K (a.put o.dst v') w') : o.wp P a w K Q := by
 obtain ⟨v', w', hrun, h2, h3, h4⟩ := run_app (P := P) (ty := o.type) w hT v n xs hown R A m c news hr h1 hbytes h63 hbase
 unfold Oper.wp execOp
 simp only [ho, resolve, invoke, builtin, Sem.run_bind, Sem.run_pure, Result.andThen_ok, List.map_toArray, List.map_cons, List.map_nil, hs, hx, hrun]
 exact h v' w' h2 ((Kept.refl _ _).grown h3 (fun _ _ e => e)) h4

theorem wpList_app {ops : Array Oper} {rest : List Oper} {o : Oper} {a : Act} {Q : Exit → Act → World → Prop} (hgd : o.guard = none) {base : Nat} {t e : TypeId} {size bytes : Nat} (hT : SlTy P t e size bytes) (s x : Operand)
   (ho : o.op = .call { callee := .builtin .append, args := #[s, x], argTypes := #[t, t] })
   (v : Value) (n : Nat) (xs : List Value) (hs : a.eval s = v) (hown : w.ownsRow base e size v n xs)
   (R : Nat → Prop) (A : Option Addr) (m c : Nat) (news : List Value) (hx : a.eval x = .slice A m c) (hr : Reads w R size A m news) (h1 : ∀ u ∈ news, u.oneCell' = true)
   (hbytes : (n + m) * bytes ≤ 140737488355328) (h63 : n + m ≤ maxLen) (hbase : base ≤ w.heap.size)
   (h : ∀ v' w', w'.ownsRow base e size v' (n + m) (xs ++ news) → Kept (fun k => v.ownBlock = some k) w w' → (v'.ownBlock = v.ownBlock ∨ v'.ownBlock = some w.heap.size) → wpList P ops Q rest (a.put o.dst v') w') : wpList P ops Q (o :: rest) a w :=
 wpList_plain hgd fun _ hK => wp_app w hT s x ho v n xs hs hown R A m c news hx hr h1 hbytes h63 hbase fun v' w' h2 h3 h4 => hK _ _ (h v' w' h2 h3 h4)
end

theorem Kept.app {S : Nat → Prop} {a w w' : World} {e : TypeId} {size n : Nat} {v : Value} {xs : List Value} (h : Kept S a w) (hown : w.ownsRow a.heap.size e size v n xs) (hk : Kept (fun k => v.ownBlock = some k) w w') : Kept S a w' :=
 h.then hk fun i hi hs => by have := (own_lt hown hs).1; omega

theorem own_reads {w : World} {base : Nat} {e : TypeId} {size n : Nat} {v : Value} {xs : List Value} (h : w.ownsRow base e size v n xs) :
   ∃ A c, v = .slice A n c ∧ n ≤ maxLen ∧ Reads w (fun b => base ≤ b ∧ v.ownBlock = some b) size A n xs := by
 obtain ⟨hl, h2⟩ := h
 rcases h2 with ⟨rfl, rfl⟩ | ⟨g, cap, cur, rfl, hb, hh, hn, hc, hs, ht⟩
 · exact ⟨none, 0, rfl, by simp, hl, fun h => absurd h (by omega)⟩
 · refine ⟨_, _, rfl, by omega, hl, fun _ => ⟨g, 0, rfl, ⟨hb, rfl⟩, fun j u hu => ?_⟩⟩
   have hj : j < xs.length := (List.getElem?_eq_some_iff.1 hu).1
   rw [Nat.zero_add, show w.cell? ⟨g, j, none⟩ = cur[j]? from cell_of_row w g j cur e (0, 0) hh]
   rw [← ht, List.getElem?_take] at hu
   split at hu
   · simpa using hu
   · cases hu

theorem kept_of_regrown {S : Nat → Prop} {w : World} (d : Nat) (os : Array Obj) : Kept S w (grow (redrawn w d) os) :=
 Kept.of_below (below_regrown w d os) (fun i hi hb => absurd hb (by omega))

end Go.Proofs.Ytodmkjeankbieab


namespace Go.Proofs.Ytodmkjeankbieab

theorem shape_there {op : Int} (h : known op = true) : (decide ((shape op).getD 0 0 = 45) = !gvs op) ∧ (decide ((shape op).getD 1 0 = 45) = !decide (0 < many op)) ∧ (decide ((shape op).getD 2 0 = 45) = !decide (1 < many op)) := by
 rcases known_cases h with rfl | rfl | rfl | rfl | rfl | rfl | rfl | rfl | rfl | rfl | ⟨h1, h2⟩ | ⟨h1, h2⟩
 case inr.inr.inr.inr.inr.inr.inr.inr.inr.inr.inl => rw [shape_op h1 h2, gvs_op h1, many_op h1]; simp
 case inr.inr.inr.inr.inr.inr.inr.inr.inr.inr.inr => rw [shape_wide h1 h2, gvs_op (by omega), many_op (by omega)]; simp
 all_goals simp [shape, gvs, many]

def ovP (a b : PlaceV) : Bool :=
 if a.k = 2 ∧ b.k = 1 then b.n / 2 == a.n else if a.k = 1 ∧ b.k = 2 then a.n / 2 == b.n else decide (a.k = b.k ∧ a.n = b.n)
theorem ovP_comm (a b : PlaceV) : ovP a b = ovP b a := by
 unfold ovP
 by_cases h1 : a.k = 2 ∧ b.k = 1
 · rw [if_pos h1, if_neg (by omega), if_pos (by omega)]
 · rw [if_neg h1]
   by_cases h2 : a.k = 1 ∧ b.k = 2
   · rw [if_pos h2, if_pos (by omega)]
   · rw [if_neg h2, if_neg (by omega), if_neg (by omega), decide_eq_decide]; omega
theorem ovP_self (a : PlaceV) : ovP a a = true := by
 unfold ovP
 rw [if_neg (by omega), if_neg (by omega)]; simp

def tgB (sg : Int) : Bool := decide (4 ≤ sg) && decide (sg ≤ 16) && decide (sg % 2 = 0)
def isB (sg sl : Int) (a : PlaceV) : Bool := decide (0 ≤ a.n ∧ a.n < if a.k = 1 then sg else if a.k = 2 then sg / 2 else if a.k = 3 then sl else 0)
def mvB (sg sl : Int) (m : Mv) : Bool :=
 isB sg sl m.to && if m.c then decide (m.fr = ⟨0, 0⟩) && decide (m.to.k = 1) else decide (m.n = 0) && isB sg sl m.fr && (decide (m.to.k = m.fr.k) != (decide (m.to.k = 3) || decide (m.fr.k = 3)))
def mvsB (sg sl : Int) (l : List Mv) : Bool := l.all (mvB sg sl) && decide (l.length ≤ 6)
def kindV (wide : List Bool) (l : UInt8) (t : Int) : Int := if l = 45 then 0 else if wd wide t then 2 else 1
def plB (wide : List Bool) (sg sl : Int) (l : UInt8) (t : Int) (a : PlaceV) : Bool :=
 decide (a.k = kindV wide l t) && !(decide (kindV wide l t = 0) && decide (a.n ≠ 0)) && !(decide (kindV wide l t ≠ 0) && !isB sg sl a)
def rwB (p : Pg) (sg sl : Int) (i : In) (r : Rw) : Bool :=
 (plB p.wide sg sl ((shape i.op).getD 0 0) i.d r.d && plB p.wide sg sl ((shape i.op).getD 1 0) i.a r.a && plB p.wide sg sl ((shape i.op).getD 2 0) i.b r.b) &&
   (mvsB sg sl r.before && mvsB sg sl r.after && (!decide (8 ≤ i.op ∧ i.op ≤ 10) || decide (r.after.length = 0)))
def mayL (p : Pg) (sg : Int) (l : Pd) : Bool :=
 mayB p && tgB sg && decide (0 ≤ l.slots) && decide (l.slots ≤ 12) && decide (l.rows.length = p.code.length) && (p.code.zip l.rows).all fun x => rwB p sg l.slots x.1 x.2

def isR (sg sl : Int) (a : PlaceV) : Bool :=
 if a.k = 1 then decide (0 ≤ a.n ∧ a.n < sg) else if a.k = 2 then decide (0 ≤ a.n ∧ 2 * a.n < sg ∧ a.n < 100) else if a.k = 3 then decide (0 ≤ a.n ∧ a.n < sl) else false
def mvR (sg sl : Int) (m : Mv) : Bool :=
 isR sg sl m.to && if m.c then decide (m.fr.k = 0 ∧ m.fr.n = 0 ∧ m.to.k = 1) else (decide (m.n = 0) && isR sg sl m.fr) && if m.to.k = 3 then decide (m.fr.k ≠ 3) else decide (m.fr.k = 3 ∨ m.fr.k = m.to.k)
def mvsR (sg sl : Int) (l : List Mv) : Bool := decide (l.length ≤ 6) && l.all (mvR sg sl)
def regR (wide : List Bool) (sg : Int) (t : Int) (a : PlaceV) : Bool := decide (a.k = if wd wide t then 2 else 1) && isR sg 0 a
def plR (wide : List Bool) (sg : Int) (there : Bool) (t : Int) (a : PlaceV) : Bool := if there then regR wide sg t a else decide (a.k = 0 ∧ a.n = 0)
def rwR (p : Pg) (sg sl : Int) (i : In) (r : Rw) : Bool :=
 (plR p.wide sg (gvs i.op) i.d r.d && plR p.wide sg (decide (0 < many i.op)) i.a r.a && plR p.wide sg (decide (1 < many i.op)) i.b r.b) &&
   (mvsR sg sl r.before && mvsR sg sl r.after) && !(decide (i.op = 8 ∨ i.op = 9 ∨ i.op = 10) && decide (0 < r.after.length))
def tgR (sg : Int) : Bool := decide (sg = 4) || decide (sg = 6) || decide (sg = 8) || decide (sg = 10) || decide (sg = 12) || decide (sg = 14) || decide (sg = 16)
def mayLR (p : Pg) (sg : Int) (l : Pd) : Bool :=
 mayR p && tgR sg && decide (0 ≤ l.slots) && decide (l.slots ≤ 12) && decide (l.rows.length = p.code.length) && (p.code.zip l.rows).all fun x => rwR p sg l.slots x.1 x.2

theorem tg_eq (sg : Int) : tgB sg = tgR sg := by
 unfold tgB tgR
 rw [Bool.eq_iff_iff]
 simp
 omega
theorem tg_facts {sg : Int} (h : tgB sg = true) : 4 ≤ sg ∧ sg ≤ 16 ∧ sg % 2 = 0 := by
 unfold tgB at h; simpa [and_assoc] using h
theorem is_eq {sg sl : Int} (h0 : sg ≤ 16) (h2 : sg % 2 = 0) (a : PlaceV) : isB sg sl a = isR sg sl a := by
 unfold isB isR
 by_cases e1 : a.k = 1
 · simp only [e1, if_true]
 · by_cases e2 : a.k = 2
   · rw [if_neg e1, if_pos e2, if_neg e1, if_pos e2, decide_eq_decide]; omega
   · by_cases e3 : a.k = 3
     · rw [if_neg e1, if_neg e2, if_pos e3, if_neg e1, if_neg e2, if_pos e3]
     · rw [if_neg e1, if_neg e2, if_neg e3, if_neg e1, if_neg e2, if_neg e3]
       exact decide_eq_false (by omega)
theorem isB_slots {sg sl sl' : Int} {a : PlaceV} (h : a.k ≠ 3) : isB sg sl a = isB sg sl' a := by
 unfold isB
 rw [if_neg h, if_neg h]
theorem mv_eq {sg sl : Int} (h0 : sg ≤ 16) (h2 : sg % 2 = 0) (m : Mv) : mvB sg sl m = mvR sg sl m := by
 unfold mvB mvR
 rw [is_eq h0 h2, is_eq h0 h2]
 congr 1
 obtain ⟨⟨tk, tn⟩, ⟨fk, fn⟩, c, n⟩ := m
 cases c with
 | true =>
   simp only [if_true, PlaceV.mk.injEq]
   rw [Bool.eq_iff_iff]
   simp
   omega
 | false =>
   simp only [Bool.false_eq_true, if_false]
   congr 1
   by_cases e1 : tk = 3
   · subst e1
     by_cases e2 : fk = 3
     · subst e2; simp
     · have : ¬ (3 : Int) = fk := by omega
       simp [e2, this]
   · by_cases e2 : fk = 3
     · subst e2; simp [e1]
     · simp [e1, e2]
       exact eq_comm
theorem mvs_eq {sg sl : Int} (h0 : sg ≤ 16) (h2 : sg % 2 = 0) (l : List Mv) : mvsB sg sl l = mvsR sg sl l := by
 unfold mvsB mvsR
 rw [show mvB sg sl = mvR sg sl from funext (mv_eq h0 h2), Bool.and_comm]
theorem pl_eq {wide : List Bool} {sg sl : Int} (h0 : sg ≤ 16) (h2 : sg % 2 = 0) {l : UInt8} {there : Bool} (ht : decide (l = 45) = !there) (t : Int) (a : PlaceV) : plB wide sg sl l t a = plR wide sg there t a := by
 unfold plB plR kindV
 cases there with
 | false =>
   simp only [Bool.not_false, decide_eq_true_eq] at ht
   simp only [ht, if_true, Bool.false_eq_true, if_false]
   rw [Bool.eq_iff_iff]
   simp
 | true =>
   simp only [Bool.not_true, decide_eq_false_iff_not] at ht
   simp only [ht, if_true, if_false]
   unfold regR
   rw [← is_eq h0 h2]
   cases wd wide t with
   | true =>
     simp only [if_true]
     by_cases hk : a.k = 2
     · rw [isB_slots (sl' := 0) (by omega : a.k ≠ 3)]
       simp [hk]
     · simp [hk]
   | false =>
     simp only [Bool.false_eq_true, if_false]
     by_cases hk : a.k = 1
     · rw [isB_slots (sl' := 0) (by omega : a.k ≠ 3)]
       simp [hk]
     · simp [hk]
theorem rw_eq {p : Pg} {sg sl : Int} (h0 : sg ≤ 16) (h2 : sg % 2 = 0) {i : In} (hk : known i.op = true) (r : Rw) : rwB p sg sl i r = rwR p sg sl i r := by
 obtain ⟨s0, s1, s2⟩ := shape_there hk
 unfold rwB rwR
 rw [pl_eq h0 h2 s0, pl_eq h0 h2 s1, pl_eq h0 h2 s2, mvs_eq h0 h2, mvs_eq h0 h2]
 generalize (plR p.wide sg (gvs i.op) i.d r.d && plR p.wide sg (decide (0 < many i.op)) i.a r.a && plR p.wide sg (decide (1 < many i.op)) i.b r.b) = X
 generalize mvsR sg sl r.before = Y
 generalize mvsR sg sl r.after = Z
 generalize r.after.length = n
 rw [Bool.and_assoc (X) (Y && Z)]
 congr 2
 rw [Bool.eq_iff_iff]
 simp
 omega

theorem mayB_known {p : Pg} (h : mayB p = true) {i : In} (hi : i ∈ p.code) : known i.op = true := by
 unfold mayB at h
 simp only [Bool.and_eq_true, List.all_eq_true] at h
 have := h.1.1.1.1 i hi
 unfold insB at this
 simp only [Bool.and_eq_true] at this
 exact this.1.1.1

theorem all_congr {α : Type} {f g : α → Bool} : ∀ {l : List α}, (∀ x ∈ l, f x = g x) → l.all f = l.all g
 | [], _ => rfl
 | x :: l, h => by rw [List.all_cons, List.all_cons, h x (by simp), all_congr fun y hy => h y (List.mem_cons_of_mem _ hy)]

theorem mayL_eq (p : Pg) (sg : Int) (l : Pd) : mayL p sg l = mayLR p sg l := by
 unfold mayL mayLR
 rw [← mayB_eq, ← tg_eq]
 by_cases h : mayB p = true ∧ tgB sg = true
 · obtain ⟨t1, t2, t3⟩ := tg_facts h.2
   congr 1
   apply all_congr
   intro x hx
   exact rw_eq t2 t3 (mayB_known h.1 (List.of_mem_zip hx).1) _
 · have : (mayB p && tgB sg) = false := by
     rw [Bool.and_eq_false_iff]
     cases h1 : mayB p <;> simp_all
   simp only [this, Bool.false_and]

end Go.Proofs.Ytodmkjeankbieab


namespace Go.Proofs.Ytodmkjeankbieab

def bw (an : Bool) (a b : Nat) : Nat := if an then a &&& b else a ^^^ b

theorem bw_lt (an : Bool) (a b j : Nat) (ha : a < 2 ^ j) (hb : b < 2 ^ j) : bw an a b < 2 ^ j := by
 unfold bw; split
 · exact Nat.and_lt_two_pow _ hb
 · exact Nat.xor_lt_two_pow ha hb

def opM (M : Int) (op a b : Int) : Int :=
 if op = 1 then (a + b) % M
 else if op = 2 then (a - b) % M
 else if op = 3 then a * b % M
 else if op = 4 then ((bw true a.toNat b.toNat : Nat) : Int)
 else if op = 5 then ((bw false a.toNat b.toNat : Nat) : Int)
 else if op = 6 then (if a < b then 1 else 0)
 else 0

def wideOp (op a b : Int) : Int := opM 18446744073709551616 op a b
def narrowOp (op a b : Int) : Int := opM 4294967296 op a b

theorem bw_lt_int (an : Bool) (j : Nat) (M : Int) (hM : M = ((2 ^ j : Nat) : Int)) (a b : Int) (ha : a < M) (hb : b < M) : ((bw an a.toNat b.toNat : Nat) : Int) < M := by
 subst hM
 have hp := Nat.two_pow_pos j
 have := bw_lt an a.toNat b.toNat j (by omega) (by omega)
 omega

theorem opM_range (j : Nat) (M : Int) (hM : M = ((2 ^ j : Nat) : Int)) (hj : 2 ≤ M) (op a b : Int) (ha : a < M) (hb : b < M) : 0 ≤ opM M op a b ∧ opM M op a b < M := by
 have h1 := bw_lt_int true j M hM a b ha hb
 have h2 := bw_lt_int false j M hM a b ha hb
 have h0 : M ≠ 0 := by omega
 have e1 := Int.emod_nonneg (a + b) h0
 have e2 := Int.emod_nonneg (a - b) h0
 have e3 := Int.emod_nonneg (a * b) h0
 have f1 := Int.emod_lt_of_pos (a + b) (show 0 < M by omega)
 have f2 := Int.emod_lt_of_pos (a - b) (show 0 < M by omega)
 have f3 := Int.emod_lt_of_pos (a * b) (show 0 < M by omega)
 unfold opM
 split; · exact ⟨e1, f1⟩
 split; · exact ⟨e2, f2⟩
 split; · exact ⟨e3, f3⟩
 split; · exact ⟨Int.natCast_nonneg _, h1⟩
 split; · exact ⟨Int.natCast_nonneg _, h2⟩
 split
 · split <;> omega
 · omega

theorem wideOp_range (op a b : Int) (ha : a < 18446744073709551616) (hb : b < 18446744073709551616) : 0 ≤ wideOp op a b ∧ wideOp op a b ≤ 18446744073709551615 := by
 have := opM_range 64 18446744073709551616 (by decide) (by decide) op a b ha hb
 unfold wideOp; omega

theorem narrowOp_range (op a b : Int) (ha : a < 4294967296) (hb : b < 4294967296) : 0 ≤ narrowOp op a b ∧ narrowOp op a b ≤ 4294967295 := by
 have := opM_range 32 4294967296 (by decide) (by decide) op a b ha hb
 unfold narrowOp; omega

end Go.Proofs.Ytodmkjeankbieab


namespace Go.Proofs.Ytodmkjeankbieab

structure Sh where
 pc : Nat
 ins : List Int
 out : List Int
 steps : Nat
 state : Nat

def inAt (code : List In) (k : Nat) : In := code.getD k ⟨0, 0, 0, 0, 0, 0⟩

def giveV (i : In) (a b x : Int) : Int :=
 if i.op = 1 then i.n else if i.op = 2 then a else if i.op = 3 then x else if i.op = 5 then b * 4294967296 + a else if i.op = 6 then a % 4294967296
 else if i.op = 7 then a / 4294967296 else if 40 < i.op then wideOp (i.op - 40) a b else narrowOp (i.op - 20) (a % 4294967296) (b % 4294967296)
def pcV (i : In) (pc : Nat) (a : Int) : Nat := if i.op = 8 ∨ i.op = 9 ∧ a ≠ 0 then i.c.toNat else pc + 1
def stV (len : Nat) (i : In) (pc : Nat) (a : Int) : Nat := if i.op = 10 then 1 else if len ≤ pcV i pc a then 2 else 0

def shStep (code : List In) (s : Sh) (a : Int) : Sh :=
 let i := inAt code s.pc
 ⟨pcV i s.pc a, if i.op = 3 then s.ins.tail else s.ins, if i.op = 4 then s.out ++ [a % 4294967296] else s.out, s.steps + 1, stV code.length i s.pc a⟩

structure Mach (σ : Type) where
 pre : Nat → σ → σ
 ga : Nat → σ → Int
 gb : Nat → σ → Int
 post : Nat → Int → σ → σ

def mStep {σ : Type} (code : List In) (M : Mach σ) (x : Sh × σ) : Sh × σ :=
 let s1 := M.pre x.1.pc x.2
 let a := M.ga x.1.pc s1
 let b := M.gb x.1.pc s1
 (shStep code x.1 a, M.post x.1.pc (giveV (inAt code x.1.pc) a b (x.1.ins.headD 0)) s1)

def mRun {σ : Type} (code : List In) (M : Mach σ) : Nat → Sh × σ → Sh × σ
 | 0, x => x
 | n + 1, x => if x.1.state = 0 then mRun code M n (mStep code M x) else x

def sh0 (ins : List Int) : Sh := ⟨0, ins, [], 0, 0⟩

section
variable {σ : Type} {code : List In} {M : Mach σ}
end

def upd (s : Int → Int) (d v : Int) : Int → Int := fun k => if k = d then v else s k
def mTemps (p : Pg) : Mach (Int → Int) where
 pre _ s := s
 ga k s := s (inAt p.code k).a
 gb k s := s (inAt p.code k).b
 post k v s := if gvs (inAt p.code k).op then upd s (inAt p.code k).d v else s

def runV (p : Pg) (ins : List Int) (n : Nat) : Sh := (mRun p.code (mTemps p) n (sh0 ins, fun _ => 0)).1

structure Sto where
 sg : Int → Int
 sl : Int → Int
def getS (s : Sto) (a : PlaceV) : Int :=
 if a.k = 1 then s.sg a.n else if a.k = 2 then s.sg (2 * a.n + 1) * 4294967296 + s.sg (2 * a.n) else if a.k = 3 then s.sl a.n else 0
def putS (s : Sto) (a : PlaceV) (v : Int) : Sto :=
 if a.k = 1 then { s with sg := upd s.sg a.n (v % 4294967296) } else if a.k = 2 then { s with sg := upd (upd s.sg (2 * a.n) (v % 4294967296)) (2 * a.n + 1) (v / 4294967296) }
 else if a.k = 3 then { s with sl := upd s.sl a.n v } else s
def moveS (s : Sto) (m : Mv) : Sto := putS s m.to (if m.c then m.n else getS s m.fr)
def movesS (s : Sto) (l : List Mv) : Sto := l.foldl moveS s
def rwAt (rows : List Rw) (k : Nat) : Rw := rows.getD k ⟨⟨0, 0⟩, ⟨0, 0⟩, ⟨0, 0⟩, [], []⟩
def mPlaces (p : Pg) (rows : List Rw) : Mach Sto where
 pre k s := movesS s (rwAt rows k).before
 ga k s := getS s (rwAt rows k).a
 gb k s := getS s (rwAt rows k).b
 post k v s := movesS (if gvs (inAt p.code k).op then putS s (rwAt rows k).d v else s) (rwAt rows k).after
def doneV (p : Pg) (rows : List Rw) (ins : List Int) (n : Nat) : Sh := (mRun p.code (mPlaces p rows) n (sh0 ins, ⟨fun _ => 0, fun _ => 0⟩)).1

end Go.Proofs.Ytodmkjeankbieab


namespace Go.Proofs.Ytodmkjeankbieab

def takesB (i : In) (t : Nat) : Bool := (uses i).contains (t : Int)
def givesB (i : In) (t : Nat) : Bool := gvs i.op && decide (i.d = (t : Int))
def nx (code : List In) (k : Nat) : List Nat := ((nexts (inAt code k) k).map Int.toNat).filter (fun m => decide (m < code.length))

def needN (code : List In) (t : Nat) : Nat → Nat → Bool
 | 0, _ => false
 | n + 1, k => takesB (inAt code k) t || (!givesB (inAt code k) t && (nx code k).any (needN code t n))
def Need (code : List In) (t k : Nat) : Prop := ∃ n, needN code t n k = true
open Classical in
noncomputable def needB (code : List In) (k t : Nat) : Bool := decide (Need code t k)

theorem need_iff (code : List In) (t k : Nat) : Need code t k ↔ takesB (inAt code k) t = true ∨ (givesB (inAt code k) t = false ∧ ∃ m ∈ nx code k, Need code t m) := by
 constructor
 · rintro ⟨n, h⟩
   cases n with
   | zero => simp [needN] at h
   | succ n =>
     rw [needN] at h
     simp only [Bool.or_eq_true, Bool.and_eq_true, List.any_eq_true, Bool.not_eq_true'] at h
     rcases h with h | ⟨h1, m, hm, h2⟩
     · exact Or.inl h
     · exact Or.inr ⟨h1, m, hm, n, h2⟩
 · rintro (h | ⟨h1, m, hm, n, h2⟩)
   · exact ⟨1, by simp [needN, h]⟩
   · refine ⟨n + 1, ?_⟩
     rw [needN]
     simp only [Bool.or_eq_true, Bool.and_eq_true, List.any_eq_true, Bool.not_eq_true']
     exact Or.inr ⟨h1, m, hm, h2⟩

def behindM (code : List In) (M : Nat → Nat → Bool) (k t : Nat) : Bool := (nx code k).any fun m => M m t
def stepM (code : List In) (M : Nat → Nat → Bool) (k t : Nat) : Bool := takesB (inAt code k) t || (!givesB (inAt code k) t && behindM code M k t)

theorem needB_iff {code : List In} {k t : Nat} : needB code k t = true ↔ Need code t k := by unfold needB; simp
theorem needB_step (code : List In) (k t : Nat) : needB code k t = stepM code (needB code) k t := by
 rw [Bool.eq_iff_iff, needB_iff, need_iff]
 unfold stepM behindM
 simp [needB_iff]

theorem need_of_closed {code : List In} {M : Nat → Nat → Bool} {t : Nat} (hs : ∀ k, k < code.length → M k t = true → Need code t k) (hc : ∀ k, k < code.length → stepM code M k t = true → M k t = true) :
   ∀ k, k < code.length → M k t = needB code k t := by
 have h1 : ∀ n k, k < code.length → needN code t n k = true → M k t = true := by
   intro n
   induction n with
   | zero => intro k _ h; simp [needN] at h
   | succ n ih =>
     intro k hk h
     apply hc k hk
     rw [needN] at h
     unfold stepM behindM
     simp only [Bool.or_eq_true, Bool.and_eq_true, List.any_eq_true, Bool.not_eq_true'] at h ⊢
     rcases h with h | ⟨h1, m, hm, h2⟩
     · exact Or.inl h
     · refine Or.inr ⟨h1, m, hm, ih m ?_ h2⟩
       unfold nx at hm
       simpa using (List.mem_filter.1 hm).2
 intro k hk
 rw [Bool.eq_iff_iff, needB_iff]
 exact ⟨hs k hk, fun ⟨n, h⟩ => h1 n k hk h⟩

theorem need_not {code : List In} {t : Nat} (C : Nat → Prop) (hc : ∀ k, C k → takesB (inAt code k) t = false ∧ (givesB (inAt code k) t = false → ∀ m ∈ nx code k, C m)) : ∀ k, C k → needB code k t = false := by
 have h1 : ∀ n k, C k → needN code t n k = false := by
   intro n
   induction n with
   | zero => intro k _; rfl
   | succ n ih =>
     intro k hk
     rw [needN, (hc k hk).1, Bool.false_or]
     cases hg : givesB (inAt code k) t with
     | true => rfl
     | false =>
       simp only [Bool.not_false, Bool.true_and, List.any_eq_false]
       intro m hm
       rw [ih m ((hc k hk).2 hg m hm)]
       simp
 intro k hk
 rw [Bool.eq_false_iff]
 intro h
 obtain ⟨n, hn⟩ := needB_iff.1 h
 rw [h1 n k hk] at hn
 cases hn

noncomputable def needM (p : Pg) : List (List Bool) := (List.range p.code.length).map fun k => (List.range p.wide.length).map fun t => needB p.code k t

def nearAt (code : List In) (M : Nat → Nat → Bool) (k a b : Nat) : Bool :=
 givesB (inAt code k) a && !(decide ((inAt code k).op = 2) && decide ((inAt code k).a = (b : Int))) && behindM code M k b
noncomputable def nearB (code : List In) (a b : Nat) : Bool :=
 decide (a ≠ b) && ((needB code 0 a && needB code 0 b) || (List.range code.length).any fun k => nearAt code (needB code) k a b || nearAt code (needB code) k b a)
noncomputable def nearM (p : Pg) : List (List Bool) := (List.range p.wide.length).map fun a => (List.range p.wide.length).map fun b => nearB p.code a b

theorem nearB_comm (code : List In) (a b : Nat) : nearB code a b = nearB code b a := by
 unfold nearB
 have h1 : decide (a ≠ b) = decide (b ≠ a) := by rw [decide_eq_decide]; exact ne_comm
 rw [h1, Bool.and_comm (needB code 0 a)]
 congr 2
 congr 1
 funext k
 rw [Bool.or_comm]
theorem nearB_self (code : List In) (a : Nat) : nearB code a a = false := by unfold nearB; simp
end Go.Proofs.Ytodmkjeankbieab


namespace Go.Proofs.Ytodmkjeankbieab

structure Fc where
 pl : PlaceV
 temp : Bool
 t : Int
 n : Nat
 deriving DecidableEq

def hasF (a : PlaceV) (t : Int) : Fc := ⟨a, true, t, 0⟩
def isF (a : PlaceV) (n : Nat) : Fc := ⟨a, false, 0, n⟩
def knF (t : Int) (n : Nat) : Fc := ⟨⟨0, 0⟩, true, t, n⟩

def NumIn (p : Pg) (n : Nat) : Prop := n = 0 ∨ ∃ i ∈ p.code, i.op = 1 ∧ i.n = n
def mayT (wide : List Bool) (k t : Int) : Bool := decide (k = 3) || (wd wide t == decide (k = 2))
def tempIn (p : Pg) (t : Int) : Prop := 0 ≤ t ∧ t < p.wide.length

def FactIn (p : Pg) (sg sl : Int) (f : Fc) : Prop :=
 (f.pl = ⟨0, 0⟩ ∧ f.temp = true ∧ tempIn p f.t ∧ wd p.wide f.t = false ∧ NumIn p f.n) ∨
 (isB sg sl f.pl = true ∧ f.temp = true ∧ f.n = 0 ∧ tempIn p f.t ∧ mayT p.wide f.pl.k f.t = true) ∨
 (isB sg sl f.pl = true ∧ f.temp = false ∧ f.t = 0 ∧ f.pl.k ≠ 2 ∧ NumIn p f.n)

abbrev FS := Fc → Prop

def beginF (p : Pg) (sg sl : Int) : FS := fun f => FactIn p sg sl f ∧ f.n = 0

def withoutF (s : FS) (a : PlaceV) (t : Int) : FS := fun f => s f ∧ (f.pl.k = 0 ∨ ovP f.pl a = false) ∧ (f.temp = false ∨ f.t ≠ t)

def moveF (p : Pg) (s : FS) (m : Mv) : FS := fun f =>
 withoutF s m.to (-1) f ∨ (m.c = true ∧ NumIn p m.n ∧ f = isF m.to m.n) ∨ (m.c = true ∧ ∃ g, s g ∧ g.pl.k = 0 ∧ g.n = m.n ∧ f = hasF m.to g.t) ∨
 (m.c = false ∧ ∃ g, s g ∧ g.pl = m.fr ∧ ((g.temp = true ∧ mayT p.wide m.to.k g.t = true ∧ f = hasF m.to g.t) ∨ (g.temp = false ∧ m.to.k ≠ 2 ∧ f = isF m.to g.n)))
def movesF (p : Pg) (s : FS) (l : List Mv) : FS := l.foldl (moveF p) s

def giveF (s : FS) (i : In) (a : PlaceV) : FS := fun f =>
 withoutF s a i.d f ∨
 (i.op = 1 ∧ ((∃ g, s g ∧ g.temp = false ∧ g.n = i.n ∧ ovP g.pl a = false ∧ f = hasF g.pl i.d) ∨ f = knF i.d i.n ∨ f = isF a i.n)) ∨
 (i.op = 2 ∧ ((∃ g, s g ∧ g.temp = true ∧ g.t = i.a ∧ ((g.pl.k = 0 ∧ (f = knF i.d g.n ∨ f = isF a g.n)) ∨ (g.pl.k ≠ 0 ∧ ovP g.pl a = false ∧ f = hasF g.pl i.d))) ∨ f = hasF a i.a)) ∨
 f = hasF a i.d
def insF (s : FS) (i : In) (a : PlaceV) : FS := if gvs i.op then giveF s i a else s

def thruF (p : Pg) (s : FS) (i : In) (r : Rw) : FS := movesF p (insF (movesF p s r.before) i r.d) r.after
def tookF (p : Pg) (s : FS) (i : In) (r : Rw) : Prop :=
 (0 < many i.op → movesF p s r.before (hasF r.a i.a)) ∧ (1 < many i.op → movesF p s r.before (hasF r.b i.b))

section
variable {p : Pg} {s s' : FS}
theorem withoutF_mono (h : ∀ f, s f → s' f) (a : PlaceV) (t : Int) : ∀ f, withoutF s a t f → withoutF s' a t f := fun f hf => ⟨h f hf.1, hf.2⟩
theorem moveF_mono (h : ∀ f, s f → s' f) (m : Mv) : ∀ f, moveF p s m f → moveF p s' m f := by
 rintro f (h1 | h1 | ⟨h0, g, h1, h2⟩ | ⟨h0, g, h1, h2⟩)
 · exact Or.inl (withoutF_mono h _ _ f h1)
 · exact Or.inr (Or.inl h1)
 · exact Or.inr (Or.inr (Or.inl ⟨h0, g, h g h1, h2⟩))
 · exact Or.inr (Or.inr (Or.inr ⟨h0, g, h g h1, h2⟩))
theorem movesF_mono : ∀ (l : List Mv) {s s' : FS}, (∀ f, s f → s' f) → ∀ f, movesF p s l f → movesF p s' l f
 | [], _, _, h => h
 | m :: l, _, _, h => movesF_mono l (moveF_mono h m)
theorem giveF_mono (h : ∀ f, s f → s' f) (i : In) (a : PlaceV) : ∀ f, giveF s i a f → giveF s' i a f := by
 rintro f (h1 | ⟨h0, h1⟩ | ⟨h0, h1⟩ | h1)
 · exact Or.inl (withoutF_mono h _ _ f h1)
 · refine Or.inr (Or.inl ⟨h0, ?_⟩)
   rcases h1 with ⟨g, h1, h2⟩ | h1
   · exact Or.inl ⟨g, h g h1, h2⟩
   · exact Or.inr h1
 · refine Or.inr (Or.inr (Or.inl ⟨h0, ?_⟩))
   rcases h1 with ⟨g, h1, h2⟩ | h1
   · exact Or.inl ⟨g, h g h1, h2⟩
   · exact Or.inr h1
 · exact Or.inr (Or.inr (Or.inr h1))
theorem insF_mono (h : ∀ f, s f → s' f) (i : In) (a : PlaceV) : ∀ f, insF s i a f → insF s' i a f := by
 unfold insF
 split
 · exact giveF_mono h i a
 · exact h
theorem thruF_mono (h : ∀ f, s f → s' f) (i : In) (r : Rw) : ∀ f, thruF p s i r f → thruF p s' i r f :=
 movesF_mono _ (insF_mono (movesF_mono _ h) i r.d)
theorem tookF_mono (h : ∀ f, s f → s' f) {i : In} {r : Rw} (ht : tookF p s i r) : tookF p s' i r :=
 ⟨fun hm => movesF_mono _ h _ (ht.1 hm), fun hm => movesF_mono _ h _ (ht.2 hm)⟩
end

def ComeN (code : List In) : Nat → Nat → Prop
 | 0, k => k = 0
 | n + 1, k => ∃ j, ComeN code n j ∧ k ∈ nx code j
def Come (code : List In) (k : Nat) : Prop := ∃ n, ComeN code n k
theorem Come.zero (code : List In) : Come code 0 := ⟨0, rfl⟩
theorem Come.next {code : List In} {k m : Nat} (h : Come code k) (hm : m ∈ nx code k) : Come code m := let ⟨n, hn⟩ := h; ⟨n + 1, k, hn, hm⟩
theorem Come.ind {code : List In} {C : Nat → Prop} (h0 : C 0) (hs : ∀ k m, Come code k → C k → m ∈ nx code k → C m) : ∀ k, Come code k → C k := by
 rintro k ⟨n, h⟩
 induction n generalizing k with
 | zero => cases h; exact h0
 | succ n ih =>
   obtain ⟨j, hj, hk⟩ := h
   exact hs j k ⟨n, hj⟩ (ih j hj) hk
theorem nx_lt {code : List In} {k m : Nat} (h : m ∈ nx code k) : m < code.length := by
 unfold nx at h
 simpa using (List.mem_filter.1 h).2
theorem Come.lt {code : List In} {k : Nat} (h : Come code k) (h0 : 0 < code.length) : k < code.length := by
 obtain ⟨n, h⟩ := h
 cases n with
 | zero => cases h; exact h0
 | succ n => obtain ⟨j, _, hk⟩ := h; exact nx_lt hk

section
variable (p : Pg) (sg : Int) (l : Pd)
def IsSol (Y : Nat → FS) : Prop :=
 (∀ f, Y 0 f → beginF p sg l.slots f) ∧ ∀ k, Come p.code k → ∀ m ∈ nx p.code k, ∀ f, Y m f → thruF p (Y k) (inAt p.code k) (rwAt l.rows k) f
def Kn (k : Nat) : FS := fun f => Come p.code k ∧ ∃ Y, IsSol p sg l Y ∧ Y k f
def Taken : Prop := ∀ k, Come p.code k → tookF p (Kn p sg l k) (inAt p.code k) (rwAt l.rows k)
end

section
variable {p : Pg} {sg : Int} {l : Pd}
theorem Kn_sol : IsSol p sg l (Kn p sg l) := by
 refine ⟨fun f ⟨_, Y, hY, hf⟩ => hY.1 f hf, ?_⟩
 rintro k hk m hm f ⟨_, Y, hY, hf⟩
 exact thruF_mono (fun g hg => ⟨hk, Y, hY, hg⟩) _ _ f (hY.2 k hk m hm f hf)
theorem Kn_max {Y : Nat → FS} (hY : IsSol p sg l Y) {k : Nat} (hk : Come p.code k) {f : Fc} (hf : Y k f) : Kn p sg l k f := ⟨hk, Y, hY, hf⟩
theorem taken_of_sol {Y : Nat → FS} (hY : IsSol p sg l Y) (ht : ∀ k, Come p.code k → tookF p (Y k) (inAt p.code k) (rwAt l.rows k)) : Taken p sg l :=
 fun k hk => tookF_mono (fun _ hf => Kn_max hY hk hf) (ht k hk)
end

end Go.Proofs.Ytodmkjeankbieab


namespace Go.Proofs.Ytodmkjeankbieab

section
variable {α : Type}
open Classical in
theorem nodup_le : ∀ {l l' : List α}, l.Nodup → (∀ x ∈ l, x ∈ l') → l.length ≤ l'.length
 | [], _, _, _ => Nat.zero_le _
 | x :: t, l', hn, hs => by
   have hx := hs x (by simp)
   have hn' := List.nodup_cons.1 hn
   have := nodup_le (l := t) (l' := l'.erase x) hn'.2 (fun y hy => (List.mem_erase_of_ne (fun e => hn'.1 (by rw [← e]; exact hy))).2 (hs y (List.mem_cons_of_mem _ hy)))
   rw [List.length_erase_of_mem hx] at this
   have := List.length_pos_of_mem hx
   simp only [List.length_cons]
   omega
def Card (S : α → Prop) (n : Nat) : Prop := ∃ l : List α, l.Nodup ∧ (∀ x, x ∈ l ↔ S x) ∧ l.length = n
variable {S S' : α → Prop} {n m : Nat}
theorem Card.le (h : Card S n) (h' : Card S' m) (hs : ∀ x, S x → S' x) : n ≤ m := by
 obtain ⟨l, h1, h2, rfl⟩ := h
 obtain ⟨l', _, h2', rfl⟩ := h'
 exact nodup_le h1 (fun x hx => (h2' x).2 (hs x ((h2 x).1 hx)))
theorem Card.lt_iff (h : Card S n) (h' : Card S' m) (hs : ∀ x, S x → S' x) : n < m ↔ ∃ x, S' x ∧ ¬ S x := by
 constructor
 · intro hlt
   apply Classical.byContradiction
   intro hne
   have := h'.le h (fun x hx => Classical.byContradiction fun hc => hne ⟨x, hx, hc⟩)
   omega
 · rintro ⟨x, hx, hnx⟩
   obtain ⟨l, h1, h2, rfl⟩ := h
   obtain ⟨l', _, h2', rfl⟩ := h'
   have := nodup_le (l := x :: l) (l' := l') (List.nodup_cons.2 ⟨fun hc => hnx ((h2 x).1 hc), h1⟩) (fun y hy => by
     rcases List.mem_cons.1 hy with rfl | hy
     · exact (h2' _).2 hx
     · exact (h2' y).2 (hs y ((h2 y).1 hy)))
   simp only [List.length_cons] at this
   omega
theorem Card.eq (h : Card S n) (h' : Card S m) : n = m := Nat.le_antisymm (h.le h' fun _ h => h) (h'.le h fun _ h => h)
theorem Card.below (h : Card S n) {L : List α} (hs : ∀ x, S x → x ∈ L) : n ≤ L.length := by
 obtain ⟨l, h1, h2, rfl⟩ := h
 exact nodup_le h1 (fun x hx => hs x ((h2 x).1 hx))
theorem Card.congr (h : Card S n) (hs : ∀ x, S x ↔ S' x) : Card S' n := let ⟨l, h1, h2, h3⟩ := h; ⟨l, h1, fun x => (h2 x).trans (hs x), h3⟩
end

def numsL (p : Pg) : List Nat := 0 :: p.code.map (·.n)
theorem numsL_mem {p : Pg} {n : Nat} (h : NumIn p n) : n ∈ numsL p := by
 rcases h with rfl | ⟨i, hi, _, rfl⟩
 · exact List.mem_cons_self
 · exact List.mem_cons_of_mem _ (List.mem_map.2 ⟨i, hi, rfl⟩)
def placesL (sg sl : Nat) : List PlaceV :=
 (List.range sg).map (fun (n : Nat) => ⟨1, (n : Int)⟩) ++ ((List.range (sg / 2)).map (fun (n : Nat) => ⟨2, (n : Int)⟩) ++ (List.range sl).map (fun (n : Nat) => ⟨3, (n : Int)⟩))
theorem placesL_mem {sg sl : Nat} {a : PlaceV} : a ∈ placesL sg sl ↔ isB sg sl a = true := by
 obtain ⟨k, n⟩ := a
 unfold placesL isB
 simp only [List.mem_append, List.mem_map, List.mem_range, decide_eq_true_eq, PlaceV.mk.injEq]
 constructor
 · rintro (⟨m, h, rfl, rfl⟩ | ⟨m, h, rfl, rfl⟩ | ⟨m, h, rfl, rfl⟩)
   · simp; omega
   · simp; omega
   · simp; omega
 · rintro ⟨h0, h1⟩
   split at h1
   · exact Or.inl ⟨n.toNat, by omega, by omega, by omega⟩
   · split at h1
     · exact Or.inr (Or.inl ⟨n.toNat, by omega, by omega, by omega⟩)
     · split at h1
       · exact Or.inr (Or.inr ⟨n.toNat, by omega, by omega, by omega⟩)
       · omega
def factsL (p : Pg) (sg sl : Nat) : List Fc :=
 ((List.range p.wide.length).flatMap fun (t : Nat) => (numsL p).map fun n => knF (t : Int) n) ++
   (placesL sg sl).flatMap fun a => ((List.range p.wide.length).map fun (t : Nat) => hasF a (t : Int)) ++ (numsL p).map (isF a)
theorem factsL_mem {p : Pg} {sg sl : Nat} {f : Fc} (h : FactIn p sg sl f) : f ∈ factsL p sg sl := by
 obtain ⟨pl, temp, t, n⟩ := f
 unfold factsL
 rcases h with ⟨h1, h2, ⟨h3, h4⟩, _, h6⟩ | ⟨h1, h2, h3, ⟨h4, h5⟩, _⟩ | ⟨h1, h2, h3, _, h5⟩
 · simp only at h1 h2 h3 h4 h6
   subst h1; subst h2
   refine List.mem_append_left _ (List.mem_flatMap.2 ⟨t.toNat, List.mem_range.2 (by omega), List.mem_map.2 ⟨n, numsL_mem h6, ?_⟩⟩)
   unfold knF; simp; omega
 · simp only at h1 h2 h3 h4 h5
   subst h2; subst h3
   refine List.mem_append_right _ (List.mem_flatMap.2 ⟨pl, placesL_mem.2 h1, List.mem_append_left _ (List.mem_map.2 ⟨t.toNat, List.mem_range.2 (by omega), ?_⟩)⟩)
   unfold hasF; simp; omega
 · simp only at h1 h2 h3 h5
   subst h2; subst h3
   exact List.mem_append_right _ (List.mem_flatMap.2 ⟨pl, placesL_mem.2 h1, List.mem_append_right _ (List.mem_map.2 ⟨n, numsL_mem h5, rfl⟩)⟩)
theorem flat_len_le {α β : Type} (f : α → List β) (b : Nat) (h : ∀ x, (f x).length ≤ b) : ∀ l : List α, (l.flatMap f).length ≤ l.length * b
 | [] => by simp
 | x :: l => by
   rw [List.flatMap_cons, List.length_append, List.length_cons, Nat.succ_mul]
   have := h x; have := flat_len_le f b h l; omega
theorem factsL_len {p : Pg} {sg sl : Nat} (hw : p.wide.length ≤ 12) (hc : p.code.length ≤ 40) (hs : sg ≤ 16) (hl : sl ≤ 12) : (factsL p sg sl).length ≤ 2400 := by
 have hn : (numsL p).length ≤ 41 := by unfold numsL; simp; omega
 have hp : (placesL sg sl).length ≤ 36 := by unfold placesL; simp; omega
 unfold factsL
 rw [List.length_append]
 have h1 := flat_len_le (fun (t : Nat) => (numsL p).map fun n => knF (t : Int) n) 41 (fun x => by simpa using hn) (List.range p.wide.length)
 have h2 := flat_len_le (fun a => ((List.range p.wide.length).map fun (t : Nat) => hasF a (t : Int)) ++ (numsL p).map (isF a)) 53 (fun x => by simp; omega) (placesL sg sl)
 simp only [List.length_range] at h1
 have h3 : p.wide.length * 41 ≤ 12 * 41 := Nat.mul_le_mul_right _ hw
 have h4 : (placesL sg sl).length * 53 ≤ 36 * 53 := Nat.mul_le_mul_right _ hp
 omega

section
variable {p : Pg} {sg : Int} {l : Pd}
def thru (p : Pg) (l : Pd) (k : Nat) (s : FS) : FS := thruF p s (inAt p.code k) (rwAt l.rows k)

structure Work (p : Pg) (sg : Int) (l : Pd) (A : Nat → Option FS) (wk : List Nat) : Prop where
 z : A 0 ≠ none
 b0 : ∀ s, A 0 = some s → ∀ f, s f → beginF p sg l.slots f
 sup : ∀ k s, A k = some s → Come p.code k ∧ ∀ f, Kn p sg l k f → s f
 clo : ∀ k s, A k = some s → k ∉ wk → ∀ m ∈ nx p.code k, ∃ s', A m = some s' ∧ ∀ f, s' f → thru p l k s f
 mem : ∀ k ∈ wk, A k ≠ none
structure Mid (p : Pg) (sg : Int) (l : Pd) (A : Nat → Option FS) (wk : List Nat) (k : Nat) (s0 : FS) (ns : List Int) (j : Nat) : Prop where
 z : A 0 ≠ none
 b0 : ∀ s, A 0 = some s → ∀ f, s f → beginF p sg l.slots f
 sup : ∀ k s, A k = some s → Come p.code k ∧ ∀ f, Kn p sg l k f → s f
 clo : ∀ k' s, A k' = some s → k' ∉ wk → k' ≠ k → ∀ m ∈ nx p.code k', ∃ s', A m = some s' ∧ ∀ f, s' f → thru p l k' s f
 mem : ∀ k ∈ wk, A k ≠ none
 live : A k ≠ none
 own : k ∉ wk → A k = some s0 ∧ ∀ n ∈ ns.take j, n.toNat < p.code.length → ∃ s', A n.toNat = some s' ∧ ∀ f, s' f → thru p l k s0 f
 come : Come p.code k
 sk : ∀ f, Kn p sg l k f → s0 f

open Classical in
theorem Work.start : Work p sg l (fun k => if k = 0 then some (beginF p sg l.slots) else none) [0] := by
 refine ⟨by simp, ?_, ?_, ?_, ?_⟩
 · intro s hs f hf; simp at hs; subst hs; exact hf
 · intro k s hs
   split at hs
   · rename_i h; subst h
     cases hs
     exact ⟨Come.zero _, fun f hf => Kn_sol.1 f hf⟩
   · cases hs
 · intro k s hs hk
   split at hs
   · rename_i h; simp [h] at hk
   · cases hs
 · intro k hk; simp at hk; simp [hk]
theorem Work.pop {A : Nat → Option FS} {wk : List Nat} {k : Nat} {s0 : FS} (h : Work p sg l A (k :: wk)) (hs : A k = some s0) (ns : List Int) : Mid p sg l A wk k s0 ns 0 := by
 refine ⟨h.z, h.b0, h.sup, ?_, fun x hx => h.mem x (List.mem_cons_of_mem _ hx), by rw [hs]; simp, fun _ => ⟨hs, fun n hn => by simp at hn⟩, (h.sup k s0 hs).1, (h.sup k s0 hs).2⟩
 intro k' s hk' hw hne
 exact h.clo k' s hk' (fun hc => by rcases List.mem_cons.1 hc with hc | hc; exact hne hc; exact hw hc)
section
variable {A : Nat → Option FS} {wk : List Nat} {k j : Nat} {s0 : FS} {ns : List Int} {n : Int}
theorem take_s {ns : List Int} {j : Nat} {n x : Int} (h : ns[j]? = some n) (hx : x ∈ ns.take (j + 1)) : x ∈ ns.take j ∨ x = n := by
 rw [List.take_add_one, h] at hx
 simpa using hx
theorem Mid.skip (h : Mid p sg l A wk k s0 ns j) (hn : ns[j]? = some n) (hl : ¬ n.toNat < p.code.length) : Mid p sg l A wk k s0 ns (j + 1) :=
 { h with own := fun hk => ⟨(h.own hk).1, fun x hx hlx => by
     rcases take_s hn hx with hx | rfl
     · exact (h.own hk).2 x hx hlx
     · exact absurd hlx hl⟩ }
def setA (A : Nat → Option FS) (m : Nat) (s : FS) : Nat → Option FS := fun x => if x = m then some s else A x
theorem setA_same {A : Nat → Option FS} {m : Nat} {s : FS} : setA A m s m = some s := if_pos rfl
theorem setA_ne {A : Nat → Option FS} {m x : Nat} {s : FS} (h : x ≠ m) : setA A m s x = A x := if_neg h
theorem Mid.put {s : FS} (h : Mid p sg l A wk k s0 ns j) (hn : ns[j]? = some n) (hm : n.toNat ∈ nx p.code k) (hs : ∀ f, s f → thru p l k s0 f) (hle : ∀ s1, A n.toNat = some s1 → ∀ f, s f → s1 f)
   (hge : ∀ f, Kn p sg l n.toNat f → s f) (h00 : n.toNat = 0 → ∃ s1, A 0 = some s1) : Mid p sg l (setA A n.toNat s) (wk ++ [n.toNat]) k s0 ns (j + 1) := by
 have hne0 : ∀ x, A x ≠ none → setA A n.toNat s x ≠ none := by
   intro x hx
   unfold setA; split
   · simp
   · exact hx
 have hsm : ∀ x s1, A x = some s1 → ∃ s2, setA A n.toNat s x = some s2 ∧ ∀ f, s2 f → s1 f := by
   intro x s1 hx
   by_cases e : x = n.toNat
   · subst e; exact ⟨s, setA_same, hle s1 hx⟩
   · exact ⟨s1, (setA_ne e).trans hx, fun _ h => h⟩
 refine ⟨hne0 0 h.z, ?_, ?_, ?_, ?_, hne0 k h.live, ?_, h.come, h.sk⟩
 · intro s2 h2 f hf
   by_cases e : (0 : Nat) = n.toNat
   · rw [e, setA_same] at h2
     cases h2
     obtain ⟨s1, h1⟩ := h00 e.symm
     exact h.b0 s1 h1 f (hle s1 (e ▸ h1) f hf)
   · rw [setA_ne e] at h2
     exact h.b0 s2 h2 f hf
 · intro x s2 h2
   by_cases e : x = n.toNat
   · subst e
     rw [setA_same] at h2
     cases h2
     exact ⟨h.come.next hm, hge⟩
   · rw [setA_ne e] at h2
     exact h.sup x s2 h2
 · intro x s2 h2 hw hxk m hmx
   have e : x ≠ n.toNat := fun e => hw (List.mem_append_right _ (by simp [e]))
   rw [setA_ne e] at h2
   obtain ⟨s', h3, h4⟩ := h.clo x s2 h2 (fun hc => hw (List.mem_append_left _ hc)) hxk m hmx
   obtain ⟨s3, h5, h6⟩ := hsm m s' h3
   exact ⟨s3, h5, fun f hf => h4 f (h6 f hf)⟩
 · intro x hx
   rcases List.mem_append.1 hx with hx | hx
   · exact hne0 x (h.mem x hx)
   · simp at hx; subst hx; rw [setA_same]; simp
 · intro hk
   have e : k ≠ n.toNat := fun e => hk (List.mem_append_right _ (by simp [e]))
   obtain ⟨h1, h2⟩ := h.own (fun hc => hk (List.mem_append_left _ hc))
   refine ⟨(setA_ne e).trans h1, fun x hx hlx => ?_⟩
   rcases take_s hn hx with hx | rfl
   · obtain ⟨s', h3, h4⟩ := h2 x hx hlx
     obtain ⟨s3, h5, h6⟩ := hsm _ s' h3
     exact ⟨s3, h5, fun f hf => h4 f (h6 f hf)⟩
   · exact ⟨s, setA_same, hs⟩
theorem Mid.new (h : Mid p sg l A wk k s0 ns j) (hn : ns[j]? = some n) (hm : n.toNat ∈ nx p.code k) (h0 : A n.toNat = none) : Mid p sg l (setA A n.toNat (thru p l k s0)) (wk ++ [n.toNat]) k s0 ns (j + 1) :=
 h.put hn hm (fun _ h => h) (fun s1 h1 => by rw [h0] at h1; cases h1) (fun f hf => thruF_mono h.sk _ _ f (Kn_sol.2 k h.come _ hm f hf)) (fun e => absurd (e ▸ h0) h.z)
theorem Mid.less {s1 : FS} (h : Mid p sg l A wk k s0 ns j) (hn : ns[j]? = some n) (hm : n.toNat ∈ nx p.code k) (h1 : A n.toNat = some s1) : Mid p sg l (setA A n.toNat (fun f => s1 f ∧ thru p l k s0 f)) (wk ++ [n.toNat]) k s0 ns (j + 1) :=
 h.put hn hm (fun _ h => h.2) (fun s2 h2 f hf => by rw [h1] at h2; cases h2; exact hf.1) (fun f hf => ⟨(h.sup _ _ h1).2 f hf, thruF_mono h.sk _ _ f (Kn_sol.2 k h.come _ hm f hf)⟩) (fun e => ⟨s1, e ▸ h1⟩)
theorem Mid.same {s1 : FS} (h : Mid p sg l A wk k s0 ns j) (hn : ns[j]? = some n) (h1 : A n.toNat = some s1) (hs : ∀ f, s1 f → thru p l k s0 f) : Mid p sg l (setA A n.toNat (fun f => s1 f ∧ thru p l k s0 f)) wk k s0 ns (j + 1) := by
 have e : setA A n.toNat (fun f => s1 f ∧ thru p l k s0 f) = A := by
   funext x
   by_cases e : x = n.toNat
   · subst e
     rw [setA_same, h1]
     congr 1
     funext f
     exact propext ⟨fun h => h.1, fun hf => ⟨hf, hs f hf⟩⟩
   · exact setA_ne e
 rw [e]
 exact { h with own := fun hk => ⟨(h.own hk).1, fun x hx hlx => by
     rcases take_s hn hx with hx | rfl
     · exact (h.own hk).2 x hx hlx
     · exact ⟨s1, h1, hs⟩⟩ }
theorem Mid.done (h : Mid p sg l A wk k s0 (nexts (inAt p.code k) k) (nexts (inAt p.code k) k).length) : Work p sg l A wk := by
 refine ⟨h.z, h.b0, h.sup, ?_, h.mem⟩
 intro x s hx hw m hm
 by_cases e : x = k
 · subst e
   obtain ⟨h1, h2⟩ := h.own hw
   rw [h1] at hx
   cases hx
   unfold nx at hm
   obtain ⟨hm1, hm2⟩ := List.mem_filter.1 hm
   obtain ⟨n, hn, rfl⟩ := List.mem_map.1 hm1
   exact h2 n (by rw [List.take_length]; exact hn) (by simpa using hm2)
 · exact h.clo x s hx hw e m hm
end
theorem Work.end {A : Nat → Option FS} (h : Work p sg l A []) : (∀ k s, A k = some s → Come p.code k ∧ s = Kn p sg l k) ∧ ∀ k, Come p.code k → A k = some (Kn p sg l k) := by
 have hc : ∀ k, Come p.code k → ∃ s, A k = some s := by
   apply Come.ind
   · cases h0 : A 0 with
     | none => exact absurd h0 h.z
     | some s => exact ⟨s, rfl⟩
   · rintro k m _ ⟨s, hs⟩ hm
     obtain ⟨s', h1, _⟩ := h.clo k s hs (by simp) m hm
     exact ⟨s', h1⟩
 have hsol : IsSol p sg l (fun k f => ∃ s, A k = some s ∧ s f) := by
   refine ⟨fun f ⟨s, h1, h2⟩ => h.b0 s h1 f h2, ?_⟩
   rintro k hk m hm f ⟨s', h1, h2⟩
   obtain ⟨s, hs⟩ := hc k hk
   obtain ⟨s2, h3, h4⟩ := h.clo k s hs (by simp) m hm
   rw [h1] at h3
   cases h3
   exact thruF_mono (fun g hg => ⟨s, hs, hg⟩) _ _ f (h4 f h2)
 have heq : ∀ k s, A k = some s → Come p.code k ∧ s = Kn p sg l k := by
   intro k s hs
   obtain ⟨h1, h2⟩ := h.sup k s hs
   refine ⟨h1, funext fun f => propext ⟨fun hf => Kn_max hsol h1 ⟨s, hs, hf⟩, h2 f⟩⟩
 refine ⟨heq, fun k hk => ?_⟩
 obtain ⟨s, hs⟩ := hc k hk
 rw [hs, (heq k s hs).2]
end
end Go.Proofs.Ytodmkjeankbieab


namespace Go.Proofs.Ytodmkjeankbieab
open Go.RowKit Go.Sort Go.Maps

structure SetTy (P : Program) (T K E : TypeId) {α : Type} (ok : α → Prop) (val : α → Value) (lit : α → Lit) : Prop where
 keyed : Keyed P K
 ht : P.underlying T = some (.map K E)
 he : P.underlying E = some .bool
 hz : ∀ w, (zeroValue E).run P w = .ok (.bool false) w
 key : ∀ x, ok x → keyOf P K (val x) = some (lit x)
 inv : ∀ v l, keyOf P K v = some l → ∃ x, ok x ∧ v = val x ∧ l = lit x
 vinj : ∀ x y, val x = val y → x = y

section
variable {P : Program} {T K E : TypeId} {α : Type} {ok : α → Prop} {val : α → Value} {lit : α → Lit}
theorem SetTy.linj (h : SetTy P T K E ok val lit) {x y : α} (hx : ok x) (hy : ok y) (e : lit x = lit y) : x = y :=
 h.vinj _ _ (h.keyed.inj (h.key x hx) (by rw [e]; exact h.key y hy))

theorem elem_bool {H : Type} {v : Value} {d : DataW H} {ps : List MemPlace} (he : P.underlying E = some .bool) (h : plainElem P E v = some (d, ps)) : ∃ x, v = .bool x ∧ d = .lit (.bool x) := by
 unfold plainElem at h
 rw [he] at h
 cases v <;> simp at h
 exact ⟨_, rfl, h.1.symm⟩

def SetAt (P : Program) (K E : TypeId) (ok : α → Prop) (lit : α → Lit) (w : World) (b n : Nat) (S : α → Prop) : Prop :=
 ∃ D : DataW Unit, w.ownsMap P K (plainElem P E) b n D ∧ (∀ x, S x → ok x) ∧ (∀ x, ok x → (Maps.has D (lit x) = true ↔ S x)) ∧ ∀ x, S x → D.atKey (lit x) (.lit (.bool false)) = .lit (.bool true)

variable {w w' : World} {b n : Nat} {S : α → Prop}
theorem own_map_kept {H : Type} {k : TypeId} {R : Value → Option (DataW H × List MemPlace)} {D : DataW H} {X : Nat → Prop} (h : w.ownsMap P k R b n D) (hk : Kept X w w') (hx : ¬ X b) : w'.ownsMap P k R b n D := by
 have hlt := h.lt
 obtain ⟨es, clock, hb, r⟩ := h
 exact ⟨es, clock, (hk.block b hlt hx).trans hb, r⟩
theorem SetAt.lt (h : SetAt P K E ok lit w b n S) : b < w.heap.size := let ⟨_, h, _⟩ := h; h.lt
theorem SetAt.kept {X : Nat → Prop} (h : SetAt P K E ok lit w b n S) (hk : Kept X w w') (hx : ¬ X b) : SetAt P K E ok lit w' b n S :=
 let ⟨D, h1, h2⟩ := h
 ⟨D, own_map_kept h1 hk hx, h2⟩
theorem SetAt.mono (h : SetAt P K E ok lit w b n S) {n' : Nat} (hn : n ≤ n') : SetAt P K E ok lit w b n' S :=
 let ⟨D, h1, h2⟩ := h
 ⟨D, h1.mono hn, h2⟩
theorem SetAt.congr {S' : α → Prop} (h : SetAt P K E ok lit w b n S) (hs : ∀ x, S x ↔ S' x) : SetAt P K E ok lit w b n S' := by
 have e : S = S' := funext fun x => propext (hs x)
 rwa [← e]
theorem SetAt.drew (h : SetAt P K E ok lit w b n S) : SetAt P K E ok lit w.drew b n S := h
theorem SetAt.alloc (h : SetAt P K E ok lit w b n S) (o : Obj) : SetAt P K E ok lit (w.alloc o) b n S := h.kept ((Kept.refl (fun _ => False) w).alloc o) (fun h => h)
theorem SetAt.made (w : World) : SetAt P K E ok lit (w.alloc (.map #[] 0)) w.heap.size 0 (fun _ => False) :=
 ⟨_, World.ownsMap_made w P K _, fun _ h => h.elim, fun x _ => by rw [Maps.has_eq]; simp, fun _ h => h.elim⟩

theorem SetAt.store (hT : SetTy P T K E ok val lit) (h : SetAt P K E ok lit w b n S) (hn : n < maxLen) {x : α} (hx : ok x) :
   ∃ w', (Instr.mapUpdate T (.map (some b)) (val x) (.bool true)).run P w = .ok () w' ∧ SetAt P K E ok lit w' b (n + 1) (fun y => S y ∨ y = x) ∧ Kept (fun k => k = b) w w' := by
 obtain ⟨D, h1, h0, h2, h3⟩ := h
 obtain ⟨w', hrun, ho, hg⟩ := h1.update hT.keyed hT.ht hn (hT.key x hx) (plainElem_bool hT.he true)
 have hm := h1.isMap
 have hkl := hT.keyed.key (hT.key x hx)
 refine ⟨w', hrun, ⟨_, ho, ?_, ?_, ?_⟩, (Kept.refl _ _).grown hg (fun k _ e => (Option.some.inj e).symm)⟩
 · rintro y (hy | rfl)
   · exact h0 y hy
   · exact hx
 · intro y hy
   by_cases e : y = x
   · subst e
     rw [has_put_same hm hkl]
     simp
   · rw [has_put_other (fun hc => e (hT.linj hy hx hc)), h2 y hy]
     simp [e]
 · rintro y hy
   by_cases e : y = x
   · subst e
     exact atKey_put_same hm hkl _ _
   · rw [atKey_put_other (fun hc => e (hT.linj (by rcases hy with hy | hy; exact h0 y hy; exact absurd hy e) hx hc))]
     exact h3 y (by rcases hy with hy | hy; exact hy; exact absurd hy e)

open Classical in
theorem SetAt.look (hT : SetTy P T K E ok val lit) (h : SetAt P K E ok lit w b n S) {x : α} (hx : ok x) :
   (Instr.lookup T (.map (some b)) (val x) false).run P w = .ok (.bool (decide (S x))) w := by
 obtain ⟨D, h1, h0, h2, h3⟩ := h
 obtain ⟨v, ps, hrun, hv⟩ := h1.lookup hT.keyed hT.ht (hT.hz w) (plainElem_bool hT.he false) (hT.key x hx)
 obtain ⟨c, rfl, hc⟩ := elem_bool hT.he hv
 rw [hrun]
 have hc2 : c = decide (S x) := by
   by_cases hS : S x
   · rw [h3 x hS] at hc
     simp only [DataW.lit.injEq, Lit.bool.injEq] at hc
     rw [← hc]; simp [hS]
   · have : Maps.has D (lit x) = false := by
       rw [Bool.eq_false_iff]; intro hh; exact hS ((h2 x hx).1 hh)
     rw [atKey_of_not_has this] at hc
     simp only [DataW.lit.injEq, Lit.bool.injEq] at hc
     rw [← hc]; simp [hS]
 rw [hc2]

theorem list_of {β γ : Type} {Q : γ → Prop} {f : γ → β} : ∀ l : List β, (∀ y ∈ l, ∃ x, Q x ∧ y = f x) → ∃ l' : List γ, l'.map f = l ∧ ∀ x ∈ l', Q x
 | [], _ => ⟨[], rfl, by simp⟩
 | y :: l, h => by
   obtain ⟨x, hx, rfl⟩ := h y (by simp)
   obtain ⟨l', e, hl⟩ := list_of l (fun z hz => h z (List.mem_cons_of_mem _ hz))
   refine ⟨x :: l', by rw [List.map_cons, e], fun z hz => ?_⟩
   rcases List.mem_cons.1 hz with rfl | hz
   · exact hx
   · exact hl z hz
theorem nodup_of_map {β γ : Type} {f : γ → β} : ∀ {l : List γ}, (l.map f).Pairwise (fun a b => a ≠ b) → l.Nodup
 | [], _ => List.nodup_nil
 | x :: l, h => by
   rw [List.map_cons, List.pairwise_cons] at h
   exact List.nodup_cons.2 ⟨fun hx => h.1 (f x) (List.mem_map.2 ⟨x, hx, rfl⟩) rfl, nodup_of_map h.2⟩
theorem SetAt.card (hT : SetTy P T K E ok val lit) (h : SetAt P K E ok lit w b n S) : ∃ m, Card S m ∧ m ≤ n ∧ SetAt P K E ok lit w b m S ∧ ∀ ty, (Builtin.len_ #[T] ty #[.map (some b)]).run P w = .ok (.int .i64 (m : Int)) w := by
 obtain ⟨D, h1, h0, h2, h3⟩ := h
 have hlen := fun ty => h1.len hT.ht ty
 have hle := h1.size_le
 obtain ⟨es0, clock, hb, F, hs, hD⟩ := h1
 have hsz : Maps.size D = es0.size := by rw [hD]; exact length_read es0
 obtain ⟨es, hes, hpw, _⟩ := World.ownsMap.entries (⟨es0, clock, hb, F, hs, hD⟩ : w.ownsMap P K (plainElem P E) b n D) hT.keyed
 have hk : ∀ y ∈ es.map (·.1), ∃ x, ok x ∧ y = lit x := by
   intro y hy
   obtain ⟨p, hp, rfl⟩ := List.mem_map.1 hy
   have hp2 : p ∈ (es0.toList.map (WideElems.rg P K (plainElem P E))).foldr DataW.insert [] := by
     rw [hes] at hD
     injection hD with hD
     rw [← hD]; exact hp
   obtain ⟨x, hx, rfl⟩ := List.mem_map.1 (mem_sorted.1 hp2)
   obtain ⟨y, hy⟩ := F.reads x hx
   obtain ⟨z, hz, _, e⟩ := hT.inv _ _ (WideElems.rd_key hy)
   exact ⟨z, hz, by rw [WideElems.rg_of hy]; exact e⟩
 obtain ⟨l, hl, hlo⟩ := list_of _ hk
 refine ⟨Maps.size D, ⟨l, ?_, ?_, ?_⟩, hle, ⟨D, ⟨es0, clock, hb, F, by omega, hD⟩, h0, h2, h3⟩, hlen⟩
 · apply nodup_of_map (f := lit)
   rw [hl]
   exact List.pairwise_map.2 hpw
 · intro x
   constructor
   · intro hx
     rw [← h2 x (hlo x hx), hes, has_eq, List.any_eq_true]
     have : lit x ∈ es.map (·.1) := by rw [← hl]; exact List.mem_map.2 ⟨x, hx, rfl⟩
     obtain ⟨p, hp, e⟩ := List.mem_map.1 this
     exact ⟨p, hp, by rw [e]; exact WideAt.sameKey_self (hT.keyed.key (hT.key x (hlo x hx)))⟩
   · intro hx
     have hh := (h2 x (h0 x hx)).2 hx
     rw [hes, has_eq, List.any_eq_true] at hh
     obtain ⟨p, hp, e⟩ := hh
     have : p.1 ∈ l.map lit := by rw [hl]; exact List.mem_map.2 ⟨p, hp, rfl⟩
     obtain ⟨y, hy, e2⟩ := List.mem_map.1 this
     have e3 := WideAt.sameKey_eq e
     have := hT.linj (hlo y hy) (h0 x hx) (e2.trans e3)
     rwa [← this]
 · rw [hes, size_eq]
   have := congrArg List.length hl
   simpa using this

def RangeAt (P : Program) (K E : TypeId) (ok : α → Prop) (lit : α → Lit) (w : World) (b r n : Nat) (S L : α → Prop) (cnt : Nat) : Prop :=
 ∃ (D : DataW Unit) (left : Lit → Bool), w.ranges P K (plainElem P E) b r n D left cnt ∧ (∀ x, S x → ok x) ∧ (∀ x, ok x → (Maps.has D (lit x) = true ↔ S x)) ∧ (∀ x, S x → D.atKey (lit x) (.lit (.bool false)) = .lit (.bool true)) ∧
   (∀ x, L x → S x) ∧ ∀ x, S x → (left (lit x) = true ↔ L x)

variable {r cnt : Nat} {L : α → Prop}
theorem ranges_kept {H : Type} {k : TypeId} {R : Value → Option (DataW H × List MemPlace)} {D : DataW H} {left : Lit → Bool} {X : Nat → Prop} (h : w.ranges P k R b r n D left cnt) (hk : Kept X w w') (hx : ¬ X b) (hr : ¬ X r) : w'.ranges P k R b r n D left cnt := by
 have hb1 := h.owns.lt
 have hr1 := h.lt
 obtain ⟨es, clock, since, seen, c0, hb, F, hs, hD, hr', rest⟩ := h
 exact ⟨es, clock, since, seen, c0, (hk.block b hb1 hx).trans hb, F, hs, hD, (hk.block r hr1 hr).trans hr', rest⟩
theorem RangeAt.kept {X : Nat → Prop} (h : RangeAt P K E ok lit w b r n S L cnt) (hk : Kept X w w') (hx : ¬ X b) (hr : ¬ X r) : RangeAt P K E ok lit w' b r n S L cnt :=
 let ⟨D, left, h1, h2⟩ := h
 ⟨D, left, ranges_kept h1 hk hx hr, h2⟩
theorem RangeAt.set (h : RangeAt P K E ok lit w b r n S L cnt) : SetAt P K E ok lit w b n S :=
 let ⟨D, _, h1, h2, h3, h4, _⟩ := h
 ⟨D, h1.owns, h2, h3, h4⟩
theorem RangeAt.lt (h : RangeAt P K E ok lit w b r n S L cnt) : r < w.heap.size ∧ r ≠ b := let ⟨_, _, h1, _⟩ := h; ⟨h1.lt, h1.ne⟩
theorem RangeAt.left_eq (h : RangeAt P K E ok lit w b r n S L cnt) : w.rangeLeft b r = cnt := let ⟨_, _, h1, _⟩ := h; h1.left_eq
theorem SetAt.range (hT : SetTy P T K E ok val lit) (h : SetAt P K E ok lit w b n S) :
   ∃ w' cnt, (Instr.range T (.map (some b))).run P w = .ok (.pointer (some ⟨w.heap.size, 0, none⟩)) w' ∧ RangeAt P K E ok lit w' b w.heap.size n S S cnt ∧ Kept (fun _ => False) w w' ∧ w'.heap.size = w.heap.size + 1 ∧ cnt ≤ n := by
 obtain ⟨D, h1, h0, h2, h3⟩ := h
 obtain ⟨w', hrun, hr, hg, hs⟩ := h1.range hT.keyed hT.ht
 exact ⟨w', _, hrun, ⟨D, _, hr, h0, h2, h3, fun _ h => h, fun x hx => h2 x (h0 x hx)⟩, (Kept.refl _ _).grown hg (fun k _ e => by cases e), hs, h1.size_le⟩
theorem RangeAt.next (hT : SetTy P T K E ok val lit) (h : RangeAt P K E ok lit w b r n S L cnt) (ty : TypeId) :
   (cnt = 0 ∧ (∀ x, ¬ L x) ∧ (Instr.next (.pointer (some ⟨r, 0, none⟩)) false ty).run P w = .ok (.tuple #[.bool false]) w) ∨
   ∃ x w' cnt', L x ∧ (Instr.next (.pointer (some ⟨r, 0, none⟩)) false ty).run P w = .ok (.tuple #[.bool true, val x, .bool true]) w' ∧ RangeAt P K E ok lit w' b r n S (fun y => L y ∧ y ≠ x) cnt' ∧ cnt' < cnt ∧
     Kept (fun k => k = r) w w' ∧ w'.heap.size = w.heap.size ∧ (Instr.entry (.pointer (some ⟨r, 0, none⟩))).run P w' = .ok (.tuple #[val x, .bool true]) w' := by
 obtain ⟨D, left, h1, h0, h2, h3, h4, h5⟩ := h
 rcases h1.next hT.keyed ty with ⟨e, hl, hrun⟩ | ⟨key, v, kl, y, w', cnt', hkey, hlk, hv, hat, hrun, hr, hlt, hg, hsz, hen⟩
 · refine Or.inl ⟨e, fun x hx => ?_, hrun⟩
   have := (h5 x (h4 x hx)).2 hx
   rw [hl] at this; cases this
 · obtain ⟨x, hx, rfl, rfl⟩ := hT.inv _ _ hkey
   have hS : S x := by
     rw [← h2 x hx]
     refine has_true_of_atKey (y := y.1) hat
   have hLx : L x := (h5 x hS).1 hlk
   obtain ⟨d, ps⟩ := y
   obtain ⟨c, rfl, rfl⟩ := elem_bool hT.he hv
   have hc := hat (.lit (.bool false))
   rw [h3 x hS] at hc
   simp only [DataW.lit.injEq, Lit.bool.injEq] at hc
   subst hc
   have hkl := hT.keyed.key hkey
   refine Or.inr ⟨x, w', cnt', hLx, hrun, ⟨D, _, hr, h0, h2, h3, fun z hz => h4 z hz.1, fun z hz => ?_⟩, hlt, (Kept.refl _ _).grown hg (fun k _ e => (Option.some.inj e).symm), hsz, hen⟩
   have hz5 := h5 z hz
   by_cases e : z = x
   · subst e
     rw [WideAt.sameKey_self hkl]
     simp
   · rw [sameKey_ne (fun hc => e (hT.linj (h0 z hz) hx hc))]
     simp [hz5, e]

section
variable (w : World) {ops : Array Oper} {rest : List Oper} {o : Oper} {a : Act} {Q : Exit → Act → World → Prop}
theorem wpList_set_store (hg : o.guard = none) (m x v : Operand) (hop : o.op = Op.mapUpdate T m x v) (hT : SetTy P T K E ok val lit) (b n : Nat) (S : α → Prop) (hm : a.eval m = .map (some b)) (h : SetAt P K E ok lit w b n S) (hn : n < maxLen)
   (X : α) (hx : a.eval x = val X) (hok : ok X) (hv : a.eval v = .bool true)
   (hK : ∀ w', SetAt P K E ok lit w' b (n + 1) (fun y => S y ∨ y = X) → Kept (fun k => k = b) w w' → wpList P ops Q rest (a.put o.dst undef) w') : wpList P ops Q (o :: rest) a w := by
 refine wpList_plain hg fun K' hK' => ?_
 obtain ⟨w', hrun, r1, r2⟩ := h.store hT hn hok
 unfold Oper.wp
 simp [execOp, hop, hm, hx, hv, hrun, Result.andThen]
 exact hK' _ _ (hK w' r1 r2)
open Classical in
theorem wpList_set_look (hg : o.guard = none) (m x : Operand) (hop : o.op = Op.lookup T m x false) (hT : SetTy P T K E ok val lit) (b n : Nat) (S : α → Prop) (hm : a.eval m = .map (some b)) (h : SetAt P K E ok lit w b n S)
   (X : α) (hx : a.eval x = val X) (hok : ok X) (hK : wpList P ops Q rest (a.put o.dst (.bool (decide (S X)))) w) : wpList P ops Q (o :: rest) a w := by
 refine wpList_plain hg fun K' hK' => ?_
 have hrun := h.look hT hok
 unfold Oper.wp
 simp [execOp, hop, hm, hx, hrun, Result.andThen]
 exact hK' _ _ hK
theorem wpList_set_range (hg : o.guard = none) (m : Operand) (hop : o.op = Op.range T m) (hT : SetTy P T K E ok val lit) (b n : Nat) (S : α → Prop) (hm : a.eval m = .map (some b)) (h : SetAt P K E ok lit w b n S)
   (hK : ∀ w' cnt, RangeAt P K E ok lit w' b w.heap.size n S S cnt → Kept (fun _ => False) w w' → w'.heap.size = w.heap.size + 1 → cnt ≤ n → wpList P ops Q rest (a.put o.dst (.pointer (some ⟨w.heap.size, 0, none⟩))) w') : wpList P ops Q (o :: rest) a w := by
 refine wpList_plain hg fun K' hK' => ?_
 obtain ⟨w', cnt, hrun, r1, r2, r3, r4⟩ := h.range hT
 unfold Oper.wp
 simp [execOp, hop, hm, hrun, Result.andThen]
 exact hK' _ _ (hK w' cnt r1 r2 r3 r4)
theorem wpList_set_next (hg : o.guard = none) (it : Operand) (hop : o.op = Op.next it false) (hT : SetTy P T K E ok val lit) (b r n : Nat) (S L : α → Prop) (cnt : Nat) (hit : a.eval it = .pointer (some ⟨r, 0, none⟩)) (h : RangeAt P K E ok lit w b r n S L cnt)
   (hDone : cnt = 0 → (∀ x, ¬ L x) → wpList P ops Q rest (a.put o.dst (.tuple #[.bool false])) w)
   (hMore : ∀ (x : α) (w' : World) (cnt' : Nat), L x → RangeAt P K E ok lit w' b r n S (fun y => L y ∧ y ≠ x) cnt' → cnt' < cnt → Kept (fun k => k = r) w w' → w'.heap.size = w.heap.size →
     (Instr.entry (.pointer (some ⟨r, 0, none⟩))).run P w' = .ok (.tuple #[val x, .bool true]) w' → wpList P ops Q rest (a.put o.dst (.tuple #[.bool true, val x, .bool true])) w') : wpList P ops Q (o :: rest) a w := by
 refine wpList_plain hg fun K' hK' => ?_
 unfold Oper.wp
 rcases h.next hT o.type with ⟨h0, hl, hrun⟩ | ⟨x, w', cnt', hx, hrun, hr, hlt, hk, hsz, hen⟩
 · simp [execOp, hop, hit, hrun, Result.andThen]
   exact hK' _ _ (hDone h0 hl)
 · simp [execOp, hop, hit, hrun, Result.andThen]
   exact hK' _ _ (hMore x w' cnt' hx hr hlt hk hsz hen)
end
end
end Go.Proofs.Ytodmkjeankbieab


namespace Go.Proofs.Ytodmkjeankbieab

theorem inAt_get {code : List In} {k : Nat} (h : k < code.length) : inAt code k = code[k] := by
 unfold inAt; rw [List.getD_eq_getElem?_getD, List.getElem?_eq_getElem h]; rfl
theorem inAt_mem {code : List In} {k : Nat} (h : k < code.length) : inAt code k ∈ code := by rw [inAt_get h]; exact List.getElem_mem h
theorem rwAt_get {rows : List Rw} {k : Nat} (h : k < rows.length) : rwAt rows k = rows[k] := by
 unfold rwAt; rw [List.getD_eq_getElem?_getD, List.getElem?_eq_getElem h]; rfl
theorem rwAt_mem {rows : List Rw} {k : Nat} (h : k < rows.length) : rwAt rows k ∈ rows := by rw [rwAt_get h]; exact List.getElem_mem h

theorem mayB_ins {p : Pg} (h : mayB p = true) {i : In} (hi : i ∈ p.code) : insB p i = true := by
 unfold mayB at h
 simp only [Bool.and_eq_true, List.all_eq_true] at h
 exact h.1.1.1.1 i hi
theorem mayB_len {p : Pg} (h : mayB p = true) : 1 ≤ p.wide.length ∧ p.wide.length ≤ 12 ∧ 1 ≤ p.code.length ∧ p.code.length ≤ 40 := by
 unfold mayB at h
 simp only [Bool.and_eq_true, decide_eq_true_eq] at h
 exact ⟨h.1.1.1.2, h.1.1.2, h.1.2, h.2⟩
theorem mayL_facts {p : Pg} {sg : Int} {l : Pd} (h : mayL p sg l = true) : mayB p = true ∧ tgB sg = true ∧ 0 ≤ l.slots ∧ l.slots ≤ 12 ∧ l.rows.length = p.code.length := by
 unfold mayL at h
 simp only [Bool.and_eq_true, decide_eq_true_eq] at h
 exact ⟨h.1.1.1.1.1, h.1.1.1.1.2, h.1.1.1.2, h.1.1.2, h.1.2⟩
theorem mayL_row {p : Pg} {sg : Int} {l : Pd} (h : mayL p sg l = true) {k : Nat} (hk : k < p.code.length) : rwB p sg l.slots (inAt p.code k) (rwAt l.rows k) = true := by
 have hl := (mayL_facts h).2.2.2.2
 unfold mayL at h
 simp only [Bool.and_eq_true, List.all_eq_true] at h
 have hz : (p.code[k], l.rows[k]'(by omega)) ∈ p.code.zip l.rows := by
   rw [List.mem_iff_getElem]
   exact ⟨k, by simp; omega, by simp⟩
 have := h.2 _ hz
 rw [inAt_get hk, rwAt_get (by omega)]
 exact this

structure InsOk (p : Pg) (i : In) : Prop where
 kn : known i.op = true
 d : gvs i.op = true → tempIn p i.d
 a : 0 < many i.op → tempIn p i.a
 b : 1 < many i.op → tempIn p i.b
 c : i.op = 8 ∨ i.op = 9 → 0 ≤ i.c ∧ i.c < p.code.length
 w1 : i.op = 1 ∨ i.op = 3 ∨ i.op = 6 ∨ i.op = 7 ∨ (20 < i.op ∧ i.op ≤ 26) → wd p.wide i.d = false
 w2 : i.op = 2 → wd p.wide i.d = wd p.wide i.a
 w5 : i.op = 5 → wd p.wide i.d = true ∧ wd p.wide i.a = false ∧ wd p.wide i.b = false
 w6 : i.op = 6 ∨ i.op = 7 → wd p.wide i.a = true
 w20 : (20 < i.op ∧ i.op ≤ 26) → wd p.wide i.a = false ∧ wd p.wide i.b = false
 w40 : 40 < i.op → wd p.wide i.d = true ∧ wd p.wide i.a = true ∧ wd p.wide i.b = true

theorem insOk {p : Pg} {i : In} (h : insB p i = true) : InsOk p i := by
 rw [insB_eq] at h
 have hk := insR_known h
 obtain ⟨op, d, a, b, c, n⟩ := i
 unfold insR at h
 simp only [Bool.and_eq_true] at h
 obtain ⟨⟨⟨⟨_, h1⟩, h2⟩, h3⟩, h4⟩ := h
 obtain ⟨⟨h2, h5⟩, h6⟩ := h2
 simp only at hk h1 h2 h3 h4 h5 h6
 have hD : gvs op = true → tempIn p d := fun hg => by
   unfold fieldR at h2; rw [if_pos hg] at h2; simpa [inB, tempIn] using h2
 have hA : 0 < many op → tempIn p a := fun hg => by
   unfold fieldR at h5; rw [if_pos (decide_eq_true hg)] at h5; simpa [inB, tempIn] using h5
 have hB : 1 < many op → tempIn p b := fun hg => by
   unfold fieldR at h6; rw [if_pos (decide_eq_true hg)] at h6; simpa [inB, tempIn] using h6
 have hC : op = 8 ∨ op = 9 → 0 ≤ c ∧ c < p.code.length := fun hg => by
   rw [if_pos hg] at h3; simpa [inB] using h3
 rcases known_cases hk with rfl | rfl | rfl | rfl | rfl | rfl | rfl | rfl | rfl | rfl | ⟨g1, g2⟩ | ⟨g1, g2⟩
 case inr.inr.inr.inr.inr.inr.inr.inr.inr.inr.inl =>
   have e1 : ¬ op = 2 := by omega
   have e2 : ¬ op = 5 := by omega
   have e3 : ¬ (op = 6 ∨ op = 7) := by omega
   have e4 : ¬ 40 < op := by omega
   simp only [widthsR, kinds, uses, gvs_op g1, many_op g1, e1, e2, e3, e4] at h4
   simp at h4
   refine ⟨hk, hD, hA, hB, hC, fun _ => ?_, fun h => ?_, fun h => ?_, fun h => ?_, fun _ => ?_, fun h => ?_⟩ <;> simp only at *
   · exact h4.1
   · omega
   · omega
   · omega
   · exact ⟨h4.2.1, h4.2.2⟩
   · omega
 case inr.inr.inr.inr.inr.inr.inr.inr.inr.inr.inr =>
   have e1 : ¬ op = 2 := by omega
   have e2 : ¬ op = 5 := by omega
   have e3 : ¬ (op = 6 ∨ op = 7) := by omega
   have g3 : 20 < op := by omega
   simp only [widthsR, kinds, uses, gvs_op g3, many_op g3, e1, e2, e3, g1] at h4
   simp at h4
   refine ⟨hk, hD, hA, hB, hC, fun h => ?_, fun h => ?_, fun h => ?_, fun h => ?_, fun h => ?_, fun _ => ?_⟩ <;> simp only at *
   · omega
   · omega
   · omega
   · omega
   · omega
   · exact ⟨h4.1, h4.2.1, h4.2.2⟩
 all_goals
   simp [widthsR, kinds, uses, gvs, many] at h4
   refine ⟨hk, hD, hA, hB, hC, fun h => ?_, fun h => ?_, fun h => ?_, fun h => ?_, fun h => ?_, fun h => ?_⟩ <;> simp only at * <;> first | omega | simp_all

structure Fits (p : Pg) (st : Sto) (τ : Int → Int) : Prop where
 sg : ∀ n, 0 ≤ st.sg n ∧ st.sg n < 4294967296
 sl : ∀ n, 0 ≤ st.sl n ∧ st.sl n < 18446744073709551616
 tp : ∀ t, 0 ≤ τ t ∧ τ t < 18446744073709551616
 nar : ∀ t, wd p.wide t = false → τ t < 4294967296

def Holds (st : Sto) (τ : Int → Int) (f : Fc) : Prop :=
 if f.temp = true then (if f.pl.k = 0 then τ f.t = (f.n : Int) else getS st f.pl = τ f.t) else getS st f.pl = (f.n : Int)

theorem holds_has {st : Sto} {τ : Int → Int} {a : PlaceV} {t : Int} (h : a.k ≠ 0) : Holds st τ (hasF a t) ↔ getS st a = τ t := by unfold Holds hasF; simp [h]
theorem holds_is {st : Sto} {τ : Int → Int} {a : PlaceV} {n : Nat} : Holds st τ (isF a n) ↔ getS st a = (n : Int) := by unfold Holds isF; simp
theorem holds_kn {st : Sto} {τ : Int → Int} {t : Int} {n : Nat} : Holds st τ (knF t n) ↔ τ t = (n : Int) := by unfold Holds knF; simp

theorem getS_far {st : Sto} {a b : PlaceV} (h : ovP a b = false) (v : Int) : getS (putS st b v) a = getS st a := by
 obtain ⟨ak, an⟩ := a
 obtain ⟨bk, bn⟩ := b
 unfold ovP at h
 simp only at h
 unfold putS getS
 simp only
 by_cases b1 : bk = 1
 · subst b1
   by_cases a1 : ak = 1
   · subst a1
     simp at h
     simp [upd, h]
   · by_cases a2 : ak = 2
     · subst a2
       simp at h
       have e1 : ¬ (2 * an + 1 = bn) := by omega
       have e2 : ¬ (2 * an = bn) := by omega
       simp [upd, e1, e2]
     · simp [a1, a2]
 · by_cases b2 : bk = 2
   · subst b2
     by_cases a1 : ak = 1
     · subst a1
       simp at h
       have e1 : ¬ (an = 2 * bn + 1) := by omega
       have e2 : ¬ (an = 2 * bn) := by omega
       simp [upd, e1, e2]
     · by_cases a2 : ak = 2
       · subst a2
         simp at h
         have e1 : ¬ (2 * an + 1 = 2 * bn + 1) := by omega
         have e2 : ¬ (2 * an + 1 = 2 * bn) := by omega
         have e3 : ¬ (2 * an = 2 * bn + 1) := by omega
         have e4 : ¬ (2 * an = 2 * bn) := by omega
         simp [upd, e1, e2, e3, e4]
       · simp [a1, a2]
   · by_cases b3 : bk = 3
     · subst b3
       by_cases a3 : ak = 3
       · subst a3
         simp at h
         simp [upd, h]
       · simp [a3]
     · simp [b1, b2, b3]
theorem getS_same {st : Sto} {a : PlaceV} {v : Int} (h1 : a.k = 1 ∨ a.k = 2 ∨ a.k = 3) (h : a.k = 1 → 0 ≤ v ∧ v < 4294967296) : getS (putS st a v) a = v := by
 obtain ⟨ak, an⟩ := a
 simp only at h h1
 unfold putS getS
 rcases h1 with rfl | rfl | rfl
 · simp [upd]; have := h rfl; omega
 · have e : ¬ (2 * an = 2 * an + 1) := by omega
   simp [upd, e]; omega
 · simp [upd]
theorem getS_range {p : Pg} {st : Sto} {τ : Int → Int} (h : Fits p st τ) (a : PlaceV) : 0 ≤ getS st a ∧ getS st a < 18446744073709551616 := by
 unfold getS
 split
 · have := h.sg a.n; omega
 · split
   · have h1 := h.sg (2 * a.n)
     have h2 := h.sg (2 * a.n + 1)
     omega
   · split
     · exact h.sl a.n
     · omega
theorem fits_put {p : Pg} {st : Sto} {τ : Int → Int} (h : Fits p st τ) (a : PlaceV) {v : Int} (hv : 0 ≤ v ∧ v < 18446744073709551616) : Fits p (putS st a v) τ := by
 unfold putS
 split
 · refine ⟨fun n => ?_, h.sl, h.tp, h.nar⟩
   simp only [upd]
   split
   · omega
   · exact h.sg n
 · split
   · refine ⟨fun n => ?_, h.sl, h.tp, h.nar⟩
     simp only [upd]
     split
     · omega
     · split
       · omega
       · exact h.sg n
   · split
     · refine ⟨h.sg, fun n => ?_, h.tp, h.nar⟩
       simp only [upd]
       split
       · omega
       · exact h.sl n
     · exact h
theorem fits_upd {p : Pg} {st : Sto} {τ : Int → Int} (h : Fits p st τ) (d : Int) {v : Int} (hv : 0 ≤ v ∧ v < 18446744073709551616) (hn : wd p.wide d = false → v < 4294967296) : Fits p st (upd τ d v) := by
 refine ⟨h.sg, h.sl, fun t => ?_, fun t ht => ?_⟩
 · unfold upd; split
   · exact hv
   · exact h.tp t
 · unfold upd; split
   · subst_vars; exact hn ht
   · exact h.nar t ht

theorem isB_kind {sg sl : Int} {a : PlaceV} (h : isB sg sl a = true) : a.k = 1 ∨ a.k = 2 ∨ a.k = 3 := by
 unfold isB at h
 have := of_decide_eq_true h
 split at this
 · omega
 · split at this
   · omega
   · split at this <;> omega
theorem factIn_k0 {p : Pg} {sg sl : Int} {f : Fc} (h : FactIn p sg sl f) (h0 : f.pl.k = 0) : f.pl = ⟨0, 0⟩ ∧ f.temp = true ∧ tempIn p f.t ∧ wd p.wide f.t = false ∧ NumIn p f.n := by
 rcases h with h | ⟨h, _⟩ | ⟨h, _⟩
 · exact h
 · have := isB_kind h; omega
 · have := isB_kind h; omega
theorem factIn_temp {p : Pg} {sg sl : Int} {f : Fc} (h : FactIn p sg sl f) (h0 : f.pl.k ≠ 0) (ht : f.temp = true) : isB sg sl f.pl = true ∧ f.n = 0 ∧ tempIn p f.t ∧ mayT p.wide f.pl.k f.t = true := by
 rcases h with ⟨h, _⟩ | ⟨h, _, h2⟩ | ⟨_, h, _⟩
 · rw [h] at h0; exact absurd rfl h0
 · exact ⟨h, h2⟩
 · rw [ht] at h; cases h
theorem factIn_num {p : Pg} {sg sl : Int} {f : Fc} (h : FactIn p sg sl f) (ht : f.temp = false) : isB sg sl f.pl = true ∧ f.t = 0 ∧ f.pl.k ≠ 2 ∧ NumIn p f.n := by
 rcases h with ⟨_, h, _⟩ | ⟨_, h, _⟩ | ⟨h, _, h2⟩
 · rw [ht] at h; cases h
 · rw [ht] at h; cases h
 · exact ⟨h, h2⟩

def NumOk (p : Pg) : Prop := ∀ i ∈ p.code, i.n < 4294967296
theorem numIn_lt {p : Pg} (h : NumOk p) {n : Nat} (hn : NumIn p n) : n < 4294967296 := by
 rcases hn with rfl | ⟨i, hi, _, rfl⟩
 · omega
 · exact h i hi

theorem mvB_facts {sg sl : Int} {m : Mv} (h : mvB sg sl m = true) : isB sg sl m.to = true ∧ (m.c = true → m.to.k = 1) ∧ (m.c = false → isB sg sl m.fr = true) := by
 unfold mvB at h
 rw [Bool.and_eq_true] at h
 refine ⟨h.1, fun hc => ?_, fun hc => ?_⟩
 · have := h.2; rw [if_pos hc] at this; simp at this; exact this.2
 · have := h.2; rw [if_neg (by rw [hc]; decide)] at this; simp at this; exact this.1.2

section
variable {p : Pg} {sg sl : Int} {s : FS}
def InU (p : Pg) (sg sl : Int) (s : FS) : Prop := ∀ f, s f → FactIn p sg sl f

theorem moveF_in (hu : InU p sg sl s) {m : Mv} (hm : mvB sg sl m = true) : InU p sg sl (moveF p s m) := by
 obtain ⟨m1, m2, m3⟩ := mvB_facts hm
 rintro f (h1 | ⟨hc, hn, rfl⟩ | ⟨hc, g, hg, h0, hn, rfl⟩ | ⟨hc, g, hg, hp, h1⟩)
 · exact hu f h1.1
 · exact Or.inr (Or.inr ⟨m1, rfl, rfl, by have := m2 hc; show m.to.k ≠ 2; omega, hn⟩)
 · obtain ⟨_, _, q1, q2, _⟩ := factIn_k0 (hu g hg) h0
   refine Or.inr (Or.inl ⟨m1, rfl, rfl, q1, ?_⟩)
   show mayT p.wide m.to.k g.t = true
   unfold mayT
   rw [m2 hc, q2]; decide
 · have hk := isB_kind (m3 hc)
   rcases h1 with ⟨ht, hy, rfl⟩ | ⟨ht, hy, rfl⟩
   · obtain ⟨_, _, q1, _⟩ := factIn_temp (hu g hg) (by rw [hp]; omega) ht
     exact Or.inr (Or.inl ⟨m1, rfl, rfl, q1, hy⟩)
   · obtain ⟨_, _, _, q⟩ := factIn_num (hu g hg) ht
     exact Or.inr (Or.inr ⟨m1, rfl, rfl, hy, q⟩)
theorem movesF_in : ∀ (l : List Mv) {s : FS}, InU p sg sl s → (∀ m ∈ l, mvB sg sl m = true) → InU p sg sl (movesF p s l)
 | [], _, hu, _ => hu
 | m :: l, _, hu, hm => movesF_in l (moveF_in hu (hm m (by simp))) fun x hx => hm x (List.mem_cons_of_mem _ hx)

variable {st : Sto} {τ : Int → Int}
theorem moveF_hold (hn : NumOk p) (hu : InU p sg sl s) {m : Mv} (hm : mvB sg sl m = true) (hmn : m.n < 4294967296) (hf : Fits p st τ) (hh : ∀ f, s f → Holds st τ f) :
   Fits p (moveS st m) τ ∧ ∀ f, moveF p s m f → Holds (moveS st m) τ f := by
 obtain ⟨m1, m2, m3⟩ := mvB_facts hm
 have hk := isB_kind m1
 unfold moveS
 constructor
 · apply fits_put hf
   split
   · omega
   · exact getS_range hf _
 · rintro f (⟨h1, h2, h3⟩ | ⟨hc, hnn, rfl⟩ | ⟨hc, g, hg, h0, hnn, rfl⟩ | ⟨hc, g, hg, hp, h1⟩)
   · have := hh f h1
     unfold Holds at this ⊢
     rcases h2 with h2 | h2
     · obtain ⟨_, ht, _⟩ := factIn_k0 (hu f h1) h2
       rw [if_pos ht, if_pos h2] at this ⊢
       exact this
     · rw [getS_far h2]
       exact this
   · rw [holds_is, if_pos hc, getS_same hk (fun _ => by omega)]
   · have hgh := hh g hg
     obtain ⟨_, ht, _⟩ := factIn_k0 (hu g hg) h0
     unfold Holds at hgh
     rw [if_pos ht, if_pos h0] at hgh
     rw [holds_has (by omega), if_pos hc, getS_same hk (fun _ => by omega), hgh, hnn]
   · have hkf := isB_kind (m3 hc)
     have hgh := hh g hg
     have hgp : g.pl.k ≠ 0 := by rw [hp]; omega
     have hr := getS_range hf m.fr
     rcases h1 with ⟨ht, hy, rfl⟩ | ⟨ht, hy, rfl⟩
     · unfold Holds at hgh
       rw [if_pos ht, if_neg hgp, hp] at hgh
       rw [holds_has (by omega), if_neg (by rw [hc]; decide), getS_same hk, hgh]
       intro h1
       refine ⟨hr.1, ?_⟩
       rw [hgh]
       apply hf.nar
       unfold mayT at hy
       rw [h1] at hy
       simpa using hy
     · unfold Holds at hgh
       rw [if_neg (by rw [ht]; decide), hp] at hgh
       rw [holds_is, if_neg (by rw [hc]; decide)]
       obtain ⟨_, _, _, q⟩ := factIn_num (hu g hg) ht
       have := numIn_lt hn q
       rw [getS_same hk (fun _ => by omega), hgh]
theorem movesF_hold (hn : NumOk p) : ∀ (l : List Mv) {s : FS} {st : Sto}, InU p sg sl s → (∀ m ∈ l, mvB sg sl m = true) → (∀ m ∈ l, m.n < 4294967296) → Fits p st τ → (∀ f, s f → Holds st τ f) →
   Fits p (movesS st l) τ ∧ ∀ f, movesF p s l f → Holds (movesS st l) τ f
 | [], _, _, _, _, _, hf, hh => ⟨hf, hh⟩
 | m :: l, _, _, hu, hm, hl, hf, hh => by
   obtain ⟨h1, h2⟩ := moveF_hold hn hu (hm m (by simp)) (hl m (by simp)) hf hh
   exact movesF_hold hn l (moveF_in hu (hm m (by simp))) (fun x hx => hm x (List.mem_cons_of_mem _ hx)) (fun x hx => hl x (List.mem_cons_of_mem _ hx)) h1 h2

def IsReg (p : Pg) (sg sl : Int) (t : Int) (a : PlaceV) : Prop := a.k = (if wd p.wide t then 2 else 1) ∧ isB sg sl a = true

theorem giveF_in (hu : InU p sg sl s) {i : In} (hi : InsOk p i) (hg : gvs i.op = true) {a : PlaceV} (ha : IsReg p sg sl i.d a) (hc : i ∈ p.code) : InU p sg sl (giveF s i a) := by
 have hd := hi.d hg
 have hmay : ∀ t, wd p.wide t = wd p.wide i.d → mayT p.wide a.k t = true := by
   intro t ht
   unfold mayT
   rw [ha.1, ht]
   cases wd p.wide i.d <;> decide
 rintro f (h1 | ⟨h0, h1⟩ | ⟨h0, h1⟩ | rfl)
 · exact hu f h1.1
 · have hw : wd p.wide i.d = false := hi.w1 (Or.inl h0)
   rcases h1 with ⟨g, hgs, ht, hn, _, rfl⟩ | rfl | rfl
   · obtain ⟨q1, _, q2, _⟩ := factIn_num (hu g hgs) ht
     refine Or.inr (Or.inl ⟨q1, rfl, rfl, hd, ?_⟩)
     show mayT p.wide g.pl.k i.d = true
     unfold mayT
     rw [hw]
     simp [q2]
   · exact Or.inl ⟨rfl, rfl, hd, hw, Or.inr ⟨i, hc, h0, rfl⟩⟩
   · exact Or.inr (Or.inr ⟨ha.2, rfl, rfl, by have := ha.1; rw [hw] at this; show a.k ≠ 2; simp at this; omega, Or.inr ⟨i, hc, h0, rfl⟩⟩)
 · have hw := hi.w2 h0
   have hta : tempIn p i.a := hi.a (by rw [h0]; decide)
   rcases h1 with ⟨g, hgs, ht, hga, h1⟩ | rfl
   · rcases h1 with ⟨h2, h1⟩ | ⟨h2, _, rfl⟩
     · obtain ⟨_, _, _, q2, q3⟩ := factIn_k0 (hu g hgs) h2
       rw [hga, ← hw] at q2
       rcases h1 with rfl | rfl
       · exact Or.inl ⟨rfl, rfl, hd, q2, q3⟩
       · exact Or.inr (Or.inr ⟨ha.2, rfl, rfl, by have := ha.1; rw [q2] at this; show a.k ≠ 2; simp at this; omega, q3⟩)
     · obtain ⟨q1, _, _, q2⟩ := factIn_temp (hu g hgs) h2 ht
       refine Or.inr (Or.inl ⟨q1, rfl, rfl, hd, ?_⟩)
       show mayT p.wide g.pl.k i.d = true
       rw [hga] at q2
       unfold mayT at q2 ⊢
       rw [hw]
       exact q2
   · exact Or.inr (Or.inl ⟨ha.2, rfl, rfl, hta, hmay _ hw.symm⟩)
 · exact Or.inr (Or.inl ⟨ha.2, rfl, rfl, hd, hmay _ rfl⟩)

theorem giveF_hold (hn : NumOk p) (hu : InU p sg sl s) {i : In} (hi : InsOk p i) (hg : gvs i.op = true) (hc : i ∈ p.code) {a : PlaceV} (ha : IsReg p sg sl i.d a) (hf : Fits p st τ) (hh : ∀ f, s f → Holds st τ f) {v : Int}
   (hv : 0 ≤ v ∧ v < 18446744073709551616) (hv2 : wd p.wide i.d = false → v < 4294967296) (hv1 : i.op = 1 → v = (i.n : Int)) (hv3 : i.op = 2 → v = τ i.a) :
   Fits p (putS st a v) (upd τ i.d v) ∧ ∀ f, giveF s i a f → Holds (putS st a v) (upd τ i.d v) f := by
 have hk := isB_kind ha.2
 have hsame : getS (putS st a v) a = v := getS_same hk fun h1 => by
   have := ha.1
   rw [h1] at this
   have hw : wd p.wide i.d = false := by
     cases hw : wd p.wide i.d with
     | false => rfl
     | true => rw [hw] at this; simp at this
   exact ⟨hv.1, hv2 hw⟩
 refine ⟨fits_upd (fits_put hf a hv) _ hv hv2, ?_⟩
 rintro f (⟨h1, h2, h3⟩ | ⟨h0, h1⟩ | ⟨h0, h1⟩ | rfl)
 · have := hh f h1
   unfold Holds at this ⊢
   by_cases ht : f.temp = true
   · rw [if_pos ht] at this ⊢
     have hne : f.t ≠ i.d := by
       rcases h3 with h3 | h3
       · rw [ht] at h3; cases h3
       · exact h3
     have e : upd τ i.d v f.t = τ f.t := by unfold upd; rw [if_neg hne]
     rw [e]
     by_cases h0 : f.pl.k = 0
     · rw [if_pos h0] at this ⊢; exact this
     · rw [if_neg h0] at this ⊢
       rcases h2 with h2 | h2
       · exact absurd h2 h0
       · rw [getS_far h2]; exact this
   · rw [if_neg ht] at this ⊢
     have hk := isB_kind (factIn_num (hu f h1) (by simpa using ht)).1
     rcases h2 with h2 | h2
     · omega
     · rw [getS_far h2]; exact this
 · have hv1 := hv1 h0
   rcases h1 with ⟨g, hgs, ht, hn, hov, rfl⟩ | rfl | rfl
   · have := hh g hgs
     have hk := isB_kind (factIn_num (hu g hgs) ht).1
     unfold Holds at this
     rw [if_neg (by rw [ht]; decide)] at this
     rw [holds_has (by omega), getS_far hov, this, hn]
     unfold upd; rw [if_pos rfl, hv1]
   · rw [holds_kn]
     unfold upd; rw [if_pos rfl, hv1]
   · rw [holds_is, hsame, hv1]
 · have hv3 := hv3 h0
   rcases h1 with ⟨g, hgs, ht, hga, h1⟩ | rfl
   · have := hh g hgs
     unfold Holds at this
     rw [if_pos ht, hga] at this
     rcases h1 with ⟨h2, h1⟩ | ⟨h2, hov, rfl⟩
     · rw [if_pos h2] at this
       rcases h1 with rfl | rfl
       · rw [holds_kn]
         unfold upd; rw [if_pos rfl, hv3, this]
       · rw [holds_is, hsame, hv3, this]
     · rw [if_neg h2] at this
       rw [holds_has h2, getS_far hov, this]
       unfold upd; rw [if_pos rfl, hv3]
   · rw [holds_has (by omega), hsame]
     unfold upd
     split
     · rfl
     · exact hv3
 · rw [holds_has (by omega), hsame]
   unfold upd; rw [if_pos rfl]
end

end Go.Proofs.Ytodmkjeankbieab


namespace Go.Proofs.Ytodmkjeankbieab

theorem giveV_range {p : Pg} {τ : Int → Int} (ht : ∀ t, 0 ≤ τ t ∧ τ t < 18446744073709551616) (hnar : ∀ t, wd p.wide t = false → τ t < 4294967296) {i : In} (hi : InsOk p i) (hn : i.n < 4294967296) (hg : gvs i.op = true) {x : Int} (hx : 0 ≤ x ∧ x < 4294967296) :
   (0 ≤ giveV i (τ i.a) (τ i.b) x ∧ giveV i (τ i.a) (τ i.b) x < 18446744073709551616) ∧ (wd p.wide i.d = false → giveV i (τ i.a) (τ i.b) x < 4294967296) := by
 have ha := ht i.a
 have hb := ht i.b
 have hna := hnar i.a
 have hnb := hnar i.b
 generalize τ i.a = a at *
 generalize τ i.b = b at *
 rcases known_cases hi.kn with h | h | h | h | h | h | h | h | h | h | ⟨h1, h2⟩ | ⟨h1, h2⟩
 · unfold giveV; rw [if_pos h]; omega
 · unfold giveV; rw [if_neg (by omega), if_pos h]
   exact ⟨ha, fun hw => hna (by rw [← hi.w2 h]; exact hw)⟩
 · unfold giveV; rw [if_neg (by omega), if_neg (by omega), if_pos h]; omega
 · rw [h] at hg; exact absurd hg (by decide)
 · unfold giveV; rw [if_neg (by omega), if_neg (by omega), if_neg (by omega), if_pos h]
   obtain ⟨w1, w2, w3⟩ := hi.w5 h
   have := hna w2
   have := hnb w3
   exact ⟨by omega, fun hw => by rw [w1] at hw; cases hw⟩
 · unfold giveV; rw [if_neg (by omega), if_neg (by omega), if_neg (by omega), if_neg (by omega), if_pos h]; omega
 · unfold giveV; rw [if_neg (by omega), if_neg (by omega), if_neg (by omega), if_neg (by omega), if_neg (by omega), if_pos h]; omega
 · rw [h] at hg; exact absurd hg (by decide)
 · rw [h] at hg; exact absurd hg (by decide)
 · rw [h] at hg; exact absurd hg (by decide)
 · unfold giveV; rw [if_neg (by omega), if_neg (by omega), if_neg (by omega), if_neg (by omega), if_neg (by omega), if_neg (by omega), if_neg (by omega)]
   have := narrowOp_range (i.op - 20) (a % 4294967296) (b % 4294967296) (by omega) (by omega)
   omega
 · unfold giveV; rw [if_neg (by omega), if_neg (by omega), if_neg (by omega), if_neg (by omega), if_neg (by omega), if_neg (by omega), if_pos h1]
   have := wideOp_range (i.op - 40) a b (by omega) (by omega)
   have hw := (hi.w40 h1).1
   exact ⟨by omega, fun h => by rw [hw] at h; cases h⟩

theorem giveV_same {i : In} (hk : known i.op = true) {a b a' b' x : Int} (ha : 0 < many i.op → a = a') (hb : 1 < many i.op → b = b') (hg : gvs i.op = true) : giveV i a b x = giveV i a' b' x := by
 rcases known_cases hk with h | h | h | h | h | h | h | h | h | h | ⟨h1, h2⟩ | ⟨h1, h2⟩
 case inr.inr.inr.inr.inr.inr.inr.inr.inr.inr.inl => rw [ha (by rw [many_op h1]; omega), hb (by rw [many_op h1]; omega)]
 case inr.inr.inr.inr.inr.inr.inr.inr.inr.inr.inr => rw [ha (by rw [many_op (by omega)]; omega), hb (by rw [many_op (by omega)]; omega)]
 all_goals
   rw [h] at ha hb hg
   simp [many, gvs] at ha hb hg
 all_goals first
   | (subst ha; subst hb; rfl)
   | (subst ha; unfold giveV; simp [h])
   | (unfold giveV; simp [h])
theorem shStep_same {code : List In} {s : Sh} (hk : known (inAt code s.pc).op = true) {a a' : Int} (ha : 0 < many (inAt code s.pc).op → a = a') : shStep code s a = shStep code s a' := by
 by_cases hm : 0 < many (inAt code s.pc).op
 · rw [ha hm]
 · have h4 : (inAt code s.pc).op ≠ 4 := fun h => hm (by rw [h]; decide)
   have h9 : (inAt code s.pc).op ≠ 9 := fun h => hm (by rw [h]; decide)
   have e : ∀ x, pcV (inAt code s.pc) s.pc x = if (inAt code s.pc).op = 8 then (inAt code s.pc).c.toNat else s.pc + 1 := by
     intro x
     unfold pcV
     by_cases h8 : (inAt code s.pc).op = 8
     · rw [if_pos (Or.inl h8), if_pos h8]
     · rw [if_neg (by rintro (h | ⟨h, _⟩) <;> contradiction), if_neg h8]
   unfold shStep stV
   simp only [e, h4, if_false]

theorem pc_next {p : Pg} {k : Nat} (hi : InsOk p (inAt p.code k)) {a : Int} (hs : stV p.code.length (inAt p.code k) k a = 0) : pcV (inAt p.code k) k a ∈ nx p.code k := by
 unfold stV at hs
 have h10 : (inAt p.code k).op ≠ 10 := fun h => by rw [if_pos h] at hs; cases hs
 rw [if_neg h10] at hs
 have hlt : pcV (inAt p.code k) k a < p.code.length := by
   rcases Nat.lt_or_ge (pcV (inAt p.code k) k a) p.code.length with h | h
   · exact h
   · rw [if_pos h] at hs; cases hs
 unfold nx
 rw [List.mem_filter]
 refine ⟨?_, decide_eq_true hlt⟩
 unfold pcV nexts
 by_cases h8 : (inAt p.code k).op = 8
 · rw [if_pos (Or.inl h8), if_pos h8]; simp
 · rw [if_neg h8, if_neg h10]
   by_cases h9 : (inAt p.code k).op = 9
   · rw [if_pos h9]
     by_cases ha : a = 0
     · rw [if_neg (by rintro (h | ⟨_, h⟩) <;> contradiction)]
       simp
     · rw [if_pos (Or.inr ⟨h9, ha⟩)]; simp
   · rw [if_neg h9, if_neg (by rintro (h | ⟨h, _⟩) <;> contradiction)]
     simp

def MvsOk (rows : List Rw) : Prop := ∀ r ∈ rows, (∀ m ∈ r.before, m.n < 4294967296) ∧ ∀ m ∈ r.after, m.n < 4294967296

theorem rwB_facts {p : Pg} {sg sl : Int} {i : In} {r : Rw} (h : rwB p sg sl i r = true) (hk : known i.op = true) :
   (∀ m ∈ r.before, mvB sg sl m = true) ∧ (∀ m ∈ r.after, mvB sg sl m = true) ∧ (gvs i.op = true → IsReg p sg sl i.d r.d) ∧ (0 < many i.op → IsReg p sg sl i.a r.a) ∧ (1 < many i.op → IsReg p sg sl i.b r.b) ∧
   (8 ≤ i.op → i.op ≤ 10 → r.after = []) := by
 unfold rwB at h
 simp only [Bool.and_eq_true] at h
 obtain ⟨⟨⟨h0, h1⟩, h2⟩, ⟨h3, h4⟩, h5⟩ := h
 obtain ⟨s0, s1, s2⟩ := shape_there hk
 have hr : ∀ {l : UInt8} {t : Int} {a : PlaceV}, plB p.wide sg sl l t a = true → decide (l = 45) = false → IsReg p sg sl t a := by
   intro l t a hp hl
   have hl := of_decide_eq_false hl
   unfold plB kindV at hp
   rw [if_neg hl] at hp
   unfold IsReg
   cases hw : wd p.wide t <;> rw [hw] at hp <;> simp at hp <;> simpa using hp
 refine ⟨?_, ?_, fun hg => ?_, fun hg => ?_, fun hg => ?_, fun g1 g2 => ?_⟩
 · intro m hm
   unfold mvsB at h3
   simp only [Bool.and_eq_true, List.all_eq_true] at h3
   exact h3.1 m hm
 · intro m hm
   unfold mvsB at h4
   simp only [Bool.and_eq_true, List.all_eq_true] at h4
   exact h4.1 m hm
 · exact hr h0 (by rw [s0, hg]; rfl)
 · exact hr h1 (by rw [s1, decide_eq_true hg]; rfl)
 · exact hr h2 (by rw [s2, decide_eq_true hg]; rfl)
 · simp at h5
   rcases h5 with h5 | h5
   · omega
   · exact h5

section
variable {p : Pg} {sg : Int} {l : Pd}
theorem Kn_in (hm : mayL p sg l = true) : ∀ k, Come p.code k → InU p sg l.slots (Kn p sg l k) := by
 obtain ⟨mB, tB, s0, s1, hl⟩ := mayL_facts hm
 apply Come.ind
 · intro f hf
   exact ((Kn_sol (p := p) (sg := sg) (l := l)).1 f hf).1
 · intro k m hk hU hmk f hf
   have hkl := hk.lt (by have := mayB_len mB; omega)
   have hi := insOk (mayB_ins mB (inAt_mem hkl))
   obtain ⟨r1, r2, r3, _⟩ := rwB_facts (mayL_row hm hkl) hi.kn
   have := (Kn_sol (p := p) (sg := sg) (l := l)).2 k hk m hmk f hf
   refine movesF_in _ ?_ r2 f this
   unfold insF
   split
   · rename_i hg
     exact giveF_in (movesF_in _ hU r1) hi hg (r3 hg) (inAt_mem hkl)
   · exact movesF_in _ hU r1

structure Alike (p : Pg) (sg : Int) (l : Pd) (x : Sh × (Int → Int)) (y : Sh × Sto) : Prop where
 sh : x.1 = y.1
 come : x.1.state = 0 → Come p.code x.1.pc
 fits : Fits p y.2 x.2
 hold : x.1.state = 0 → ∀ f, Kn p sg l x.1.pc f → Holds y.2 x.2 f
 ins : ∀ n ∈ x.1.ins, 0 ≤ n ∧ n < 4294967296

theorem alike_step (hm : mayL p sg l = true) (hn : NumOk p) (hv : MvsOk l.rows) (ht : Taken p sg l) {x : Sh × (Int → Int)} {y : Sh × Sto} (h : Alike p sg l x y) (h0 : x.1.state = 0) :
   Alike p sg l (mStep p.code (mTemps p) x) (mStep p.code (mPlaces p l.rows) y) := by
 obtain ⟨mB, tB, s0, s1, hl⟩ := mayL_facts hm
 obtain ⟨s, τ⟩ := x
 obtain ⟨s', st⟩ := y
 obtain ⟨hsh, hcome, hfits, hhold, hins⟩ := h
 simp only at hsh hcome hfits hhold hins h0
 subst hsh
 have hc := hcome h0
 have hkl := hc.lt (by have := mayB_len mB; omega)
 have himem := inAt_mem hkl
 have hi := insOk (mayB_ins mB himem)
 obtain ⟨r1, r2, r3, r4, r5, _⟩ := rwB_facts (mayL_row hm hkl) hi.kn
 obtain ⟨v1, v2⟩ := hv _ (rwAt_mem (rows := l.rows) (k := s.pc) (by omega))
 have hU := Kn_in hm _ hc
 obtain ⟨hf1, hh1⟩ := movesF_hold hn (rwAt l.rows s.pc).before hU r1 v1 hfits (hhold h0)
 have hU1 := movesF_in (p := p) _ hU r1
 have hta := ht _ hc
 have ea : 0 < many (inAt p.code s.pc).op → getS (movesS st (rwAt l.rows s.pc).before) (rwAt l.rows s.pc).a = τ (inAt p.code s.pc).a := fun hg =>
   (holds_has (by have := isB_kind (r4 hg).2; omega)).1 (hh1 _ (hta.1 hg))
 have eb : 1 < many (inAt p.code s.pc).op → getS (movesS st (rwAt l.rows s.pc).before) (rwAt l.rows s.pc).b = τ (inAt p.code s.pc).b := fun hg =>
   (holds_has (by have := isB_kind (r5 hg).2; omega)).1 (hh1 _ (hta.2 hg))
 have hx : 0 ≤ s.ins.headD 0 ∧ s.ins.headD 0 < 4294967296 := by
   cases hsi : s.ins with
   | nil => simp
   | cons n r => exact hins n (by rw [hsi]; simp)
 unfold mStep
 simp only [mTemps, mPlaces]
 have e1 := shStep_same (code := p.code) (s := s) hi.kn ea
 have hmid : ∀ v, v = giveV (inAt p.code s.pc) (τ (inAt p.code s.pc).a) (τ (inAt p.code s.pc).b) (s.ins.headD 0) →
     Fits p (if gvs (inAt p.code s.pc).op = true then putS (movesS st (rwAt l.rows s.pc).before) (rwAt l.rows s.pc).d (giveV (inAt p.code s.pc) (getS (movesS st (rwAt l.rows s.pc).before) (rwAt l.rows s.pc).a) (getS (movesS st (rwAt l.rows s.pc).before) (rwAt l.rows s.pc).b) (s.ins.headD 0)) else movesS st (rwAt l.rows s.pc).before)
       (if gvs (inAt p.code s.pc).op = true then upd τ (inAt p.code s.pc).d v else τ) ∧
     ∀ f, insF (movesF p (Kn p sg l s.pc) (rwAt l.rows s.pc).before) (inAt p.code s.pc) (rwAt l.rows s.pc).d f →
       Holds (if gvs (inAt p.code s.pc).op = true then putS (movesS st (rwAt l.rows s.pc).before) (rwAt l.rows s.pc).d (giveV (inAt p.code s.pc) (getS (movesS st (rwAt l.rows s.pc).before) (rwAt l.rows s.pc).a) (getS (movesS st (rwAt l.rows s.pc).before) (rwAt l.rows s.pc).b) (s.ins.headD 0)) else movesS st (rwAt l.rows s.pc).before)
         (if gvs (inAt p.code s.pc).op = true then upd τ (inAt p.code s.pc).d v else τ) f := by
   rintro v rfl
   by_cases hg : gvs (inAt p.code s.pc).op = true
   · rw [if_pos hg, if_pos hg, giveV_same hi.kn ea eb hg]
     unfold insF
     rw [if_pos hg]
     obtain ⟨g1, g2⟩ := giveV_range hfits.tp hfits.nar hi (hn _ himem) hg hx
     exact giveF_hold hn hU1 hi hg himem (r3 hg) hf1 hh1 g1 g2 (fun h => by unfold giveV; rw [if_pos h]) (fun h => by unfold giveV; rw [if_neg (by omega), if_pos h])
   · rw [if_neg hg, if_neg hg]
     unfold insF
     rw [if_neg hg]
     exact ⟨hf1, hh1⟩
 obtain ⟨hf2, hh2⟩ := hmid _ rfl
 have hU2 : InU p sg l.slots (insF (movesF p (Kn p sg l s.pc) (rwAt l.rows s.pc).before) (inAt p.code s.pc) (rwAt l.rows s.pc).d) := by
   unfold insF
   split
   · rename_i hg
     exact giveF_in hU1 hi hg (r3 hg) himem
   · exact hU1
 obtain ⟨hf3, hh3⟩ := movesF_hold hn (rwAt l.rows s.pc).after hU2 r2 v2 hf2 hh2
 refine ⟨e1.symm, ?_, hf3, ?_, ?_⟩
 · intro hs
   exact hc.next (pc_next hi hs)
 · intro hs f hf
   exact hh3 f ((Kn_sol (p := p) (sg := sg) (l := l)).2 _ hc _ (pc_next hi hs) f hf)
 · intro n hnm
   unfold shStep at hnm
   simp only at hnm
   split at hnm
   · exact hins n (List.mem_of_mem_tail hnm)
   · exact hins n hnm

theorem alike_run (hm : mayL p sg l = true) (hn : NumOk p) (hv : MvsOk l.rows) (ht : Taken p sg l) : ∀ (n : Nat) {x : Sh × (Int → Int)} {y : Sh × Sto}, Alike p sg l x y →
   (mRun p.code (mTemps p) n x).1 = (mRun p.code (mPlaces p l.rows) n y).1
 | 0, _, _, h => h.sh
 | n + 1, x, y, h => by
   rw [mRun, mRun, ← h.sh]
   by_cases h0 : x.1.state = 0
   · rw [if_pos h0, if_pos h0]
     exact alike_run hm hn hv ht n (alike_step hm hn hv ht h h0)
   · rw [if_neg h0, if_neg h0]
     exact h.sh

theorem sound (hm : mayL p sg l = true) (hn : NumOk p) (hv : MvsOk l.rows) (ht : Taken p sg l) {ins : List Int} (hi : ∀ n ∈ ins, 0 ≤ n ∧ n < 4294967296) (n : Nat) : runV p ins n = doneV p l.rows ins n := by
 unfold runV doneV
 apply alike_run hm hn hv ht
 refine ⟨rfl, fun _ => Come.zero _, ?_, ?_, hi⟩
 · exact ⟨fun _ => by simp, fun _ => by simp, fun _ => by simp, fun _ _ => by simp⟩
 · intro _ f hf
   obtain ⟨hu, h0⟩ := (Kn_sol (p := p) (sg := sg) (l := l)).1 f hf
   have hz : ∀ a, getS ⟨fun _ => 0, fun _ => 0⟩ a = 0 := by
     intro a; unfold getS; simp
   unfold Holds
   simp [hz, h0]
end

end Go.Proofs.Ytodmkjeankbieab


namespace Go.Proofs.Ytodmkjeankbieab

theorem countP_lt {α : Type} {p q : α → Bool} : ∀ {l : List α}, (∀ x ∈ l, p x = true → q x = true) → (∃ x ∈ l, q x = true ∧ p x = false) → l.countP p < l.countP q
 | [], _, ⟨x, hx, _⟩ => by simp at hx
 | y :: l, h, ⟨x, hx, hq, hp⟩ => by
   rw [List.countP_cons, List.countP_cons]
   have hm : l.countP p ≤ l.countP q := List.countP_mono_left fun z hz => h z (List.mem_cons_of_mem _ hz)
   rcases List.mem_cons.1 hx with rfl | hx
   · rw [hq, hp]; simp; omega
   · have := countP_lt (l := l) (fun z hz => h z (List.mem_cons_of_mem _ hz)) ⟨x, hx, hq, hp⟩
     have hy := h y (by simp)
     cases hpy : p y with
     | true => rw [hy hpy]; simp; omega
     | false => cases q y <;> simp <;> omega

def cntM (L W : Nat) (M : Nat → Nat → Bool) : Nat := ((List.range L).flatMap fun k => (List.range W).map fun t => (k, t)).countP fun x => !M x.1 x.2
theorem mem_prod {L W k t : Nat} : (k, t) ∈ ((List.range L).flatMap fun k => (List.range W).map fun t => (k, t)) ↔ k < L ∧ t < W := by
 simp
theorem cnt_le {L W : Nat} {M M' : Nat → Nat → Bool} (h : ∀ k t, k < L → t < W → M k t = true → M' k t = true) : cntM L W M' ≤ cntM L W M := by
 unfold cntM
 apply List.countP_mono_left
 rintro ⟨k, t⟩ hx h1
 obtain ⟨hk, ht⟩ := mem_prod.1 hx
 simp only [Bool.not_eq_true'] at *
 cases hm : M k t with
 | false => rfl
 | true => rw [h k t hk ht hm] at h1; cases h1
theorem cnt_lt {L W : Nat} {M M' : Nat → Nat → Bool} (h : ∀ k t, k < L → t < W → M k t = true → M' k t = true) {k t : Nat} (hk : k < L) (ht : t < W) (h1 : M k t = false) (h2 : M' k t = true) : cntM L W M' < cntM L W M := by
 unfold cntM
 apply countP_lt
 · rintro ⟨k, t⟩ hx h1
   obtain ⟨hk, ht⟩ := mem_prod.1 hx
   simp only [Bool.not_eq_true'] at *
   cases hm : M k t with
   | false => rfl
   | true => rw [h k t hk ht hm] at h1; cases h1
 · exact ⟨(k, t), mem_prod.2 ⟨hk, ht⟩, by simp [h1], by simp [h2]⟩

section
variable {code : List In} {W : Nat}
structure Good (code : List In) (W : Nat) (M : Nat → Nat → Bool) : Prop where
 sound : ∀ k t, k < code.length → t < W → M k t = true → Need code t k
 grow : ∀ k t, k < code.length → t < W → M k t = true → stepM code M k t = true
theorem Good.zero : Good code W (fun _ _ => false) := ⟨fun _ _ _ _ h => by simp at h, fun _ _ _ _ h => by simp at h⟩

theorem behindM_mono {M M' : Nat → Nat → Bool} {k t : Nat} (h : ∀ m, m < code.length → M m t = true → M' m t = true) (hb : behindM code M k t = true) : behindM code M' k t = true := by
 unfold behindM at *
 rw [List.any_eq_true] at hb ⊢
 obtain ⟨m, hm, h1⟩ := hb
 refine ⟨m, hm, h m ?_ h1⟩
 unfold nx at hm
 simpa using (List.mem_filter.1 hm).2
theorem stepM_mono {M M' : Nat → Nat → Bool} {k t : Nat} (h : ∀ m, m < code.length → M m t = true → M' m t = true) (hb : stepM code M k t = true) : stepM code M' k t = true := by
 unfold stepM at *
 simp only [Bool.or_eq_true, Bool.and_eq_true] at hb ⊢
 rcases hb with hb | ⟨h1, h2⟩
 · exact Or.inl hb
 · exact Or.inr ⟨h1, behindM_mono h h2⟩

def setRow (M : Nat → Nat → Bool) (k : Nat) (r : Nat → Bool) : Nat → Nat → Bool := fun j => if j = k then r else M j
theorem setRow_same {M : Nat → Nat → Bool} {k : Nat} {r : Nat → Bool} : setRow M k r k = r := by unfold setRow; rw [if_pos rfl]
theorem setRow_ne {M : Nat → Nat → Bool} {k j : Nat} {r : Nat → Bool} (h : j ≠ k) : setRow M k r j = M j := by unfold setRow; rw [if_neg h]

structure Round (code : List In) (W : Nat) (M0 M : Nat → Nat → Bool) (ag : Bool) (k : Nat) : Prop where
 good : Good code W M
 le : ∀ j t, j < code.length → t < W → M0 j t = true → M j t = true
 same : ag = false → (∀ j t, j < code.length → t < W → M j t = M0 j t) ∧ ∀ j t, k ≤ j → j < code.length → t < W → stepM code M j t = true → M j t = true
 less : ag = true → cntM code.length W M < cntM code.length W M0
theorem Round.start {M : Nat → Nat → Bool} (h : Good code W M) : Round code W M M false code.length :=
 ⟨h, fun _ _ _ _ h => h, fun _ => ⟨fun _ _ _ _ => rfl, fun j _ h1 h2 => by omega⟩, fun h => by cases h⟩
theorem Round.step {M0 M : Nat → Nat → Bool} {ag : Bool} {k : Nat} (h : Round code W M0 M ag (k + 1)) (hk : k < code.length) {ag' : Bool} (ha : ag' = (ag || (List.range W).any fun t => stepM code M k t && !M k t)) :
   Round code W M0 (setRow M k (stepM code M k)) ag' k := by
 have hle : ∀ j t, j < code.length → t < W → M j t = true → setRow M k (stepM code M k) j t = true := by
   intro j t hj ht hm
   by_cases e : j = k
   · subst e; rw [setRow_same]; exact h.good.grow j t hj ht hm
   · rw [setRow_ne e]; exact hm
 refine ⟨⟨?_, ?_⟩, fun j t hj ht hm => hle j t hj ht (h.le j t hj ht hm), ?_, ?_⟩
 · intro j t hj ht hm
   by_cases e : j = k
   · subst e
     rw [setRow_same] at hm
     rw [need_iff]
     unfold stepM at hm
     simp only [Bool.or_eq_true, Bool.and_eq_true, Bool.not_eq_true'] at hm
     rcases hm with hm | ⟨h1, h2⟩
     · exact Or.inl hm
     · refine Or.inr ⟨h1, ?_⟩
       unfold behindM at h2
       rw [List.any_eq_true] at h2
       obtain ⟨m, hm, h2⟩ := h2
       refine ⟨m, hm, h.good.sound m t ?_ ht h2⟩
       unfold nx at hm
       simpa using (List.mem_filter.1 hm).2
   · rw [setRow_ne e] at hm
     exact h.good.sound j t hj ht hm
 · intro j t hj ht hm
   apply stepM_mono (M := M) (fun m hml h1 => hle m t hml ht h1)
   by_cases e : j = k
   · subst e; rwa [setRow_same] at hm
   · rw [setRow_ne e] at hm; exact h.good.grow j t hj ht hm
 · intro hf
   rw [hf] at ha
   have ha := ha.symm
   rw [Bool.or_eq_false_iff, List.any_eq_false] at ha
   obtain ⟨a1, a2⟩ := ha
   obtain ⟨s1, s2⟩ := h.same a1
   have hrow : ∀ t, t < W → stepM code M k t = M k t := by
     intro t ht
     have := a2 t (List.mem_range.2 ht)
     cases hs : stepM code M k t with
     | false =>
       cases hm : M k t with
       | false => rfl
       | true => rw [h.good.grow k t hk ht hm] at hs; cases hs
     | true =>
       cases hm : M k t with
       | true => rfl
       | false => rw [hs, hm] at this; simp at this
   have heq : ∀ j t, t < W → setRow M k (stepM code M k) j t = M j t := by
     intro j t ht
     by_cases e : j = k
     · subst e; rw [setRow_same]; exact hrow t ht
     · rw [setRow_ne e]
   refine ⟨fun j t hj ht => by rw [heq j t ht]; exact s1 j t hj ht, fun j t hkj hj ht hs => ?_⟩
   have hs2 : stepM code M j t = true := stepM_mono (M := setRow M k (stepM code M k)) (fun m _ h1 => by rwa [heq m t ht] at h1) hs
   rw [heq j t ht]
   by_cases e : j = k
   · subst e; rw [← hrow t ht]; exact hs2
   · exact s2 j t (by omega) hj ht hs2
 · intro ht
   rw [ht] at ha
   cases hag : ag with
   | true =>
     have := h.less hag
     have := cnt_le (L := code.length) (W := W) hle
     omega
   | false =>
     rw [hag, Bool.false_or] at ha
     have ha := ha.symm
     rw [List.any_eq_true] at ha
     obtain ⟨t, ht, h1⟩ := ha
     rw [Bool.and_eq_true, Bool.not_eq_true'] at h1
     have h2 := cnt_lt (L := code.length) (W := W) hle hk (List.mem_range.1 ht) h1.2 (by rw [setRow_same]; exact h1.1)
     have h3 := cnt_le (L := code.length) (W := W) h.le
     omega
theorem Round.done {M0 M : Nat → Nat → Bool} (h : Round code W M0 M false 0) : ∀ k t, k < code.length → t < W → M k t = needB code k t := by
 intro k t hk ht
 exact need_of_closed (M := M) (t := t) (fun j hj hm => h.good.sound j t hj ht hm) (fun j hj hs => (h.same rfl).2 j t (Nat.zero_le _) hj ht hs) k hk
end

end Go.Proofs.Ytodmkjeankbieab


namespace Go.Proofs.Ytodmkjeankbieab

def placeFs (p : Pg) (ns : List Nat) (a : PlaceV) : List Fc :=
 (if a.k = 2 then [] else ns.map (isF a)) ++ ((List.range p.wide.length).filter fun (t : Nat) => mayT p.wide a.k (t : Int)).map fun (t : Nat) => hasF a (t : Int)
def knFs (p : Pg) (ns : List Nat) : List Fc := (List.range p.wide.length).flatMap fun (t : Nat) => if wd p.wide (t : Int) then [] else ns.map (knF (t : Int))
def allFs (p : Pg) (ns : List Nat) (sg sl : Nat) : List Fc := knFs p ns ++ (placesL sg sl).flatMap (placeFs p ns)

structure NumsOk (p : Pg) (ns : List Nat) : Prop where
 mem : ∀ n, n ∈ ns ↔ NumIn p n
 up : ns.Pairwise (· < ·)

section
variable {p : Pg} {ns : List Nat} {sg sl : Nat}
theorem NumsOk.nodup (h : NumsOk p ns) : ns.Nodup := h.up.imp fun h => Nat.ne_of_lt h
theorem allFs_mem (h : NumsOk p ns) (f : Fc) : f ∈ allFs p ns sg sl ↔ FactIn p sg sl f := by
 obtain ⟨pl, temp, t, n⟩ := f
 unfold allFs knFs placeFs FactIn
 simp only [List.mem_append, List.mem_flatMap, List.mem_range]
 constructor
 · rintro (⟨x, hx, hf⟩ | ⟨a, ha, hf | hf⟩)
   · try simp only at hf
     split at hf
     · cases hf
     · rename_i hw
       obtain ⟨m, hm, e⟩ := List.mem_map.1 hf
       unfold knF at e
       injection e with e1 e2 e3 e4
       subst e1; subst e2; subst e3; subst e4
       exact Or.inl ⟨rfl, rfl, ⟨by omega, by omega⟩, by simpa using hw, (h.mem _).1 hm⟩
   · try simp only at hf
     split at hf
     · cases hf
     · rename_i hk
       obtain ⟨m, hm, e⟩ := List.mem_map.1 hf
       unfold isF at e
       injection e with e1 e2 e3 e4
       subst e1; subst e2; subst e3; subst e4
       exact Or.inr (Or.inr ⟨placesL_mem.1 ha, rfl, rfl, hk, (h.mem _).1 hm⟩)
   · obtain ⟨m, hm, e⟩ := List.mem_map.1 hf
     obtain ⟨h1, h2⟩ := List.mem_filter.1 hm
     unfold hasF at e
     injection e with e1 e2 e3 e4
     subst e1; subst e2; subst e3; subst e4
     rw [List.mem_range] at h1
     exact Or.inr (Or.inl ⟨placesL_mem.1 ha, rfl, rfl, ⟨by omega, by omega⟩, h2⟩)
 · rintro (⟨h1, h2, ⟨h3, h4⟩, h5, h6⟩ | ⟨h1, h2, h3, ⟨h4, h5⟩, h6⟩ | ⟨h1, h2, h3, h4, h5⟩)
   · try simp only at h1 h2 h3 h4 h5 h6
     subst h1; subst h2
     have e : ((t.toNat : Nat) : Int) = t := by omega
     refine Or.inl ⟨t.toNat, by omega, ?_⟩
     rw [e, h5]
     exact List.mem_map.2 ⟨n, (h.mem _).2 h6, rfl⟩
   · try simp only at h1 h2 h3 h4 h5 h6
     subst h2; subst h3
     have e : ((t.toNat : Nat) : Int) = t := by omega
     refine Or.inr ⟨pl, placesL_mem.2 h1, Or.inr (List.mem_map.2 ⟨t.toNat, List.mem_filter.2 ⟨List.mem_range.2 (by omega), by rw [e]; exact h6⟩, by rw [e]; rfl⟩)⟩
   · try simp only at h1 h2 h3 h4 h5
     subst h2; subst h3
     refine Or.inr ⟨pl, placesL_mem.2 h1, Or.inl ?_⟩
     rw [if_neg h4]
     exact List.mem_map.2 ⟨n, (h.mem _).2 h5, rfl⟩

theorem nodup_map_on {α β : Type} {f : α → β} : ∀ {l : List α}, (∀ x ∈ l, ∀ y ∈ l, f x = f y → x = y) → l.Nodup → (l.map f).Nodup
 | [], _, _ => List.nodup_nil
 | x :: l, hi, hn => by
   have hn := List.nodup_cons.1 hn
   refine List.nodup_cons.2 ⟨fun hc => ?_, nodup_map_on (fun a ha b hb => hi a (List.mem_cons_of_mem _ ha) b (List.mem_cons_of_mem _ hb)) hn.2⟩
   obtain ⟨y, hy, e⟩ := List.mem_map.1 hc
   have := hi y (List.mem_cons_of_mem _ hy) x List.mem_cons_self e
   exact hn.1 (this ▸ hy)
theorem nodup_app {α : Type} {l m : List α} (h1 : l.Nodup) (h2 : m.Nodup) (h3 : ∀ x ∈ l, x ∉ m) : (l ++ m).Nodup :=
 List.nodup_append.2 ⟨h1, h2, fun a ha b hb e => h3 a ha (e ▸ hb)⟩
theorem nodup_flat {α β γ : Type} {f : α → List β} {g : β → γ} {c : α → γ} (hg : ∀ x, ∀ y ∈ f x, g y = c x) (hc : ∀ x y, c x = c y → x = y) : ∀ {l : List α}, (∀ x ∈ l, (f x).Nodup) → l.Nodup → (l.flatMap f).Nodup
 | [], _, _ => List.nodup_nil
 | x :: l, h1, h2 => by
   rw [List.flatMap_cons]
   have hn := List.nodup_cons.1 h2
   refine nodup_app (h1 x List.mem_cons_self) (nodup_flat hg hc (fun y hy => h1 y (List.mem_cons_of_mem _ hy)) hn.2) fun y hy hc2 => ?_
   obtain ⟨z, hz, hyz⟩ := List.mem_flatMap.1 hc2
   have := hc x z ((hg x y hy).symm.trans (hg z y hyz))
   exact hn.1 (this ▸ hz)
theorem placesL_nodup (sg sl : Nat) : (placesL sg sl).Nodup := by
 unfold placesL
 have hm : ∀ (k : Int) (n : Nat), ((List.range n).map fun (i : Nat) => (⟨k, (i : Int)⟩ : PlaceV)).Nodup := fun k n =>
   nodup_map_on (fun a _ b _ e => by injection e; omega) List.nodup_range
 refine nodup_app (hm _ _) (nodup_app (hm _ _) (hm _ _) ?_) ?_
 · intro x hx hc
   obtain ⟨a, _, rfl⟩ := List.mem_map.1 hx
   obtain ⟨b, _, e⟩ := List.mem_map.1 hc
   injection e with e _; omega
 · intro x hx hc
   obtain ⟨a, _, rfl⟩ := List.mem_map.1 hx
   rcases List.mem_append.1 hc with hc | hc
   · obtain ⟨b, _, e⟩ := List.mem_map.1 hc
     injection e with e _; omega
   · obtain ⟨b, _, e⟩ := List.mem_map.1 hc
     injection e with e _; omega
theorem placeFs_pl {a : PlaceV} {f : Fc} (h : f ∈ placeFs p ns a) : f.pl = a := by
 unfold placeFs at h
 rcases List.mem_append.1 h with h | h
 · split at h
   · cases h
   · obtain ⟨_, _, rfl⟩ := List.mem_map.1 h; rfl
 · obtain ⟨_, _, rfl⟩ := List.mem_map.1 h; rfl
theorem placeFs_nodup (h : NumsOk p ns) (a : PlaceV) : (placeFs p ns a).Nodup := by
 unfold placeFs
 refine nodup_app ?_ (nodup_map_on (fun x _ y _ e => by unfold hasF at e; injection e with _ _ e; omega) (List.nodup_range.filter _)) ?_
 · split
   · exact List.nodup_nil
   · exact nodup_map_on (fun x _ y _ e => by unfold isF at e; injection e) h.nodup
 · intro x hx hc
   obtain ⟨b, _, rfl⟩ := List.mem_map.1 hc
   split at hx
   · cases hx
   · obtain ⟨c, _, e⟩ := List.mem_map.1 hx
     cases e
theorem knFs_pl {f : Fc} (h : f ∈ knFs p ns) : f.pl = ⟨0, 0⟩ := by
 unfold knFs at h
 obtain ⟨t, _, h⟩ := List.mem_flatMap.1 h
 split at h
 · cases h
 · obtain ⟨_, _, rfl⟩ := List.mem_map.1 h; rfl
theorem allFs_nodup (h : NumsOk p ns) : (allFs p ns sg sl).Nodup := by
 unfold allFs
 refine nodup_app ?_ (nodup_flat (g := Fc.pl) (c := id) (fun x y hy => placeFs_pl hy) (fun _ _ e => e) (fun x _ => placeFs_nodup h x) (placesL_nodup sg sl)) ?_
 · unfold knFs
   refine nodup_flat (g := Fc.t) (c := fun (t : Nat) => (t : Int)) (fun x y hy => ?_) (fun x y e => by exact Int.ofNat_inj.1 e) (fun x _ => ?_) List.nodup_range
   · split at hy
     · cases hy
     · obtain ⟨_, _, rfl⟩ := List.mem_map.1 hy; rfl
   · split
     · exact List.nodup_nil
     · exact nodup_map_on (fun x _ y _ e => by unfold knF at e; injection e) h.nodup
 · intro x hx hc
   obtain ⟨a, ha, hxa⟩ := List.mem_flatMap.1 hc
   have e := (knFs_pl hx).symm.trans (placeFs_pl hxa)
   have := isB_kind (placesL_mem.1 ha)
   rw [← e] at this
   simp at this
end

abbrev Bits := Nat → Bool
def fc0 : Fc := ⟨⟨0, 0⟩, false, 0, 0⟩
def fcAt (all : List Fc) (i : Nat) : Fc := all.getD i fc0
theorem fcAt_get {all : List Fc} {i : Nat} (h : i < all.length) : fcAt all i = all[i] := by unfold fcAt; rw [List.getD_eq_getElem?_getD, List.getElem?_eq_getElem h]; rfl
theorem fcAt_mem {all : List Fc} {i : Nat} (h : i < all.length) : fcAt all i ∈ all := by rw [fcAt_get h]; exact List.getElem_mem h
theorem fcAt_inj {all : List Fc} (hn : all.Nodup) {i j : Nat} (hi : i < all.length) (hj : j < all.length) (e : fcAt all i = fcAt all j) : i = j := by
 rw [fcAt_get hi, fcAt_get hj] at e
 rcases Nat.lt_trichotomy i j with h | h | h
 · exact absurd e (List.pairwise_iff_getElem.1 hn i j hi hj h)
 · exact h
 · exact absurd e.symm (List.pairwise_iff_getElem.1 hn j i hj hi h)
theorem fcAt_of {all : List Fc} {f : Fc} (h : f ∈ all) : ∃ i, i < all.length ∧ fcAt all i = f := by
 obtain ⟨i, hi, e⟩ := List.getElem_of_mem h
 exact ⟨i, hi, (fcAt_get hi).trans e⟩
def setOf (all : List Fc) (s : Bits) : FS := fun f => ∃ i, i < all.length ∧ fcAt all i = f ∧ s i = true
def findB (all : List Fc) (s : Bits) (f : Fc) : Bool := (List.range all.length).any fun i => decide (fcAt all i = f) && s i
theorem findB_iff {all : List Fc} {s : Bits} {f : Fc} : findB all s f = true ↔ setOf all s f := by
 unfold findB setOf
 rw [List.any_eq_true]
 constructor
 · rintro ⟨i, hi, h⟩
   rw [Bool.and_eq_true] at h
   exact ⟨i, List.mem_range.1 hi, of_decide_eq_true h.1, h.2⟩
 · rintro ⟨i, hi, h1, h2⟩
   exact ⟨i, List.mem_range.2 hi, by rw [h1, h2]; simp⟩
theorem findB_at {all : List Fc} (hn : all.Nodup) {s : Bits} {i : Nat} (hi : i < all.length) : findB all s (fcAt all i) = s i := by
 rw [Bool.eq_iff_iff, findB_iff]
 constructor
 · rintro ⟨j, hj, e, h⟩
   rw [← fcAt_inj hn hj hi e]; exact h
 · intro h; exact ⟨i, hi, rfl, h⟩
theorem findB_none {all : List Fc} {s : Bits} {f : Fc} (h : ∀ i, i < all.length → fcAt all i ≠ f) : findB all s f = false := by
 rw [Bool.eq_false_iff]
 intro hc
 obtain ⟨i, hi, e, _⟩ := findB_iff.1 hc
 exact h i hi e

def moveB (all : List Fc) (s : Bits) (m : Mv) : Bits := fun i =>
 if (fcAt all i).pl.k = 0 ∨ ovP (fcAt all i).pl m.to = false then s i
 else if (fcAt all i).pl ≠ m.to then false
 else if m.c = false then findB all s { fcAt all i with pl := m.fr }
 else if (fcAt all i).temp = true then findB all s ⟨⟨0, 0⟩, true, (fcAt all i).t, m.n⟩
 else decide ((fcAt all i).n = m.n)
def movesB (all : List Fc) (s : Bits) (l : List Mv) : Bits := l.foldl (moveB all) s
def giveB (all : List Fc) (s : Bits) (i : In) (a : PlaceV) : Bits := fun k =>
 let f := fcAt all k
 let mine : Bool := f.temp && decide (f.t = i.d)
 let over : Bool := decide (f.pl.k ≠ 0) && ovP f.pl a
 let o0 : Bool := if f.pl = a ∧ mine = true ∧ f.pl.k ≠ 0 then true else s k && !mine && !over
 let o1 : Bool := if i.op = 1 then
     (let o : Bool := if (mine = true ∧ f.pl.k = 0) ∨ (f.pl = a ∧ f.temp = false) then decide (f.n = i.n) else o0
      if mine = true ∧ f.pl.k ≠ 0 ∧ over = false then findB all s ⟨f.pl, false, 0, i.n⟩ else o)
   else o0
 if i.op = 2 then
   (let o : Bool := if mine = true ∧ over = false then findB all s { f with t := i.a } else o1
    let o : Bool := if f.pl = a ∧ f.temp = false then findB all s ⟨⟨0, 0⟩, true, i.a, f.n⟩ else o
    if f.pl = a ∧ f.temp = true ∧ f.t = i.a then true else o)
 else o1
def insBt (all : List Fc) (s : Bits) (i : In) (a : PlaceV) : Bits := if gvs i.op then giveB all s i a else s
def thruB (all : List Fc) (s : Bits) (i : In) (r : Rw) : Bits := movesB all (insBt all (movesB all s r.before) i r.d) r.after
def tookB (all : List Fc) (s : Bits) (i : In) (r : Rw) : Bool :=
 (!decide (0 < many i.op) || findB all (movesB all s r.before) (hasF r.a i.a)) && (!decide (1 < many i.op) || findB all (movesB all s r.before) (hasF r.b i.b))

section
variable {p : Pg} {sg sl : Int} {all : List Fc} {s : Bits}
theorem setOf_in (hall : ∀ f, f ∈ all ↔ FactIn p sg sl f) (s : Bits) : InU p sg sl (setOf all s) := by
 rintro f ⟨i, hi, rfl, _⟩
 exact (hall _).1 (fcAt_mem hi)
theorem setOf_at (hn : all.Nodup) {i : Nat} (hi : i < all.length) : setOf all s (fcAt all i) ↔ s i = true := by rw [← findB_iff, findB_at hn hi]
theorem setOf_ext (hall : ∀ f, f ∈ all ↔ FactIn p sg sl f) (hn : all.Nodup) {S : FS} (hS : InU p sg sl S) (h : ∀ i, i < all.length → (s i = true ↔ S (fcAt all i))) : setOf all s = S := by
 funext f
 apply propext
 constructor
 · rintro ⟨i, hi, rfl, hs⟩
   exact (h i hi).1 hs
 · intro hf
   obtain ⟨i, hi, rfl⟩ := fcAt_of ((hall f).2 (hS f hf))
   exact ⟨i, hi, rfl, (h i hi).2 hf⟩
theorem moveB_set (hall : ∀ f, f ∈ all ↔ FactIn p sg sl f) (hn : all.Nodup) {m : Mv} (hm : mvB sg sl m = true) : setOf all (moveB all s m) = moveF p (setOf all s) m := by
 have hu := setOf_in hall s
 obtain ⟨m1, m2, m3⟩ := mvB_facts hm
 have hk := isB_kind m1
 refine setOf_ext hall hn (moveF_in hu hm) fun i hi => ?_
 have hin := (hall _).1 (fcAt_mem hi)
 have hat := setOf_at (s := s) hn hi
 unfold moveB
 generalize hf : fcAt all i = f at *
 constructor
 · intro h
   split at h
   · rename_i h0
     refine Or.inl ⟨hat.2 h, h0, ?_⟩
     cases ht : f.temp with
     | false => exact Or.inl rfl
     | true =>
       right
       rcases h0 with h0 | h0
       · have := (factIn_k0 hin h0).2.2.1.1; omega
       · by_cases hk0 : f.pl.k = 0
         · have := (factIn_k0 hin hk0).2.2.1.1; omega
         · have := (factIn_temp hin hk0 ht).2.2.1.1; omega
   · rename_i h0
     have hk0 : f.pl.k ≠ 0 := fun e => h0 (Or.inl e)
     split at h
     · cases h
     · rename_i h1
       have h1 : f.pl = m.to := Classical.byContradiction fun e => h1 e
       split at h
       · rename_i hc
         have hg := findB_iff.1 h
         refine Or.inr (Or.inr (Or.inr ⟨hc, _, hg, rfl, ?_⟩))
         cases ht : f.temp with
         | true =>
           obtain ⟨_, q1, _, q2⟩ := factIn_temp hin hk0 ht
           refine Or.inl ⟨rfl, by rw [← h1]; exact q2, ?_⟩
           obtain ⟨pl, temp, t, n⟩ := f
           simp only at h1 ht q1
           subst h1; subst ht; subst q1; rfl
         | false =>
           obtain ⟨_, q1, q2, _⟩ := factIn_num hin ht
           refine Or.inr ⟨rfl, by rw [← h1]; exact q2, ?_⟩
           obtain ⟨pl, temp, t, n⟩ := f
           simp only at h1 ht q1
           subst h1; subst ht; subst q1; rfl
       · rename_i hc
         have hc : m.c = true := by simpa using hc
         split at h
         · rename_i ht
           obtain ⟨_, q1, _, q2⟩ := factIn_temp hin hk0 ht
           refine Or.inr (Or.inr (Or.inl ⟨hc, _, findB_iff.1 h, rfl, rfl, ?_⟩))
           obtain ⟨pl, temp, t, n⟩ := f
           simp only at h1 ht q1
           subst h1; subst ht; subst q1; rfl
         · rename_i ht0
           have ht : f.temp = false := by simpa using ht0
           obtain ⟨_, q1, _, q2⟩ := factIn_num hin ht
           have hnn := of_decide_eq_true h
           refine Or.inr (Or.inl ⟨hc, by rw [← hnn]; exact q2, ?_⟩)
           clear ht0 h hat hf hin h0 hk0 q2
           obtain ⟨pl, temp, t, n⟩ := f
           simp only at h1 ht q1 hnn
           subst h1; subst ht; subst q1; subst hnn; rfl
 · have hno : ∀ f : Fc, f.pl = m.to → ¬ (f.pl.k = 0 ∨ ovP f.pl m.to = false) := by
     rintro f e (h | h)
     · rw [e] at h; omega
     · rw [e, ovP_self] at h; cases h
   have hne : ∀ f : Fc, f.pl = m.to → ¬ f.pl ≠ m.to := fun _ e h => h e
   rintro (⟨h1, h2, _⟩ | ⟨hc, hnn, rfl⟩ | ⟨hc, g, hg, h0, hnn, rfl⟩ | ⟨hc, g, hg, hp, h1⟩)
   · rw [if_pos h2]
     exact hat.1 h1
   · rw [if_neg (hno (isF m.to m.n) rfl), if_neg (hne (isF m.to m.n) rfl), if_neg (by rw [hc]; decide), if_neg (by simp [isF])]
     exact decide_eq_true rfl
   · rw [if_neg (hno (hasF m.to g.t) rfl), if_neg (hne (hasF m.to g.t) rfl), if_neg (by rw [hc]; decide), if_pos (show (hasF m.to g.t).temp = true from rfl)]
     refine findB_iff.2 ?_
     obtain ⟨q1, q2, _⟩ := factIn_k0 (hu g hg) h0
     have : g = ⟨⟨0, 0⟩, true, (hasF m.to g.t).t, m.n⟩ := by
       obtain ⟨pl, temp, t, n⟩ := g
       simp only at q1 q2 hnn
       subst q1; subst q2; subst hnn; rfl
     rw [← this]; exact hg
   · have hkf := isB_kind (m3 hc)
     have hgp : g.pl.k ≠ 0 := by rw [hp]; omega
     rcases h1 with ⟨ht, hy, rfl⟩ | ⟨ht, hy, rfl⟩
     · rw [if_neg (hno (hasF m.to g.t) rfl), if_neg (hne (hasF m.to g.t) rfl), if_pos hc]
       refine findB_iff.2 ?_
       obtain ⟨_, q1, _⟩ := factIn_temp (hu g hg) hgp ht
       have : g = { hasF m.to g.t with pl := m.fr } := by
         obtain ⟨pl, temp, t, n⟩ := g
         simp only at hp ht q1
         subst hp; subst ht; subst q1; rfl
       rw [← this]; exact hg
     · rw [if_neg (hno (isF m.to g.n) rfl), if_neg (hne (isF m.to g.n) rfl), if_pos hc]
       refine findB_iff.2 ?_
       obtain ⟨_, q1, _⟩ := factIn_num (hu g hg) ht
       have : g = { isF m.to g.n with pl := m.fr } := by
         obtain ⟨pl, temp, t, n⟩ := g
         simp only at hp ht q1
         subst hp; subst ht; subst q1; rfl
       rw [← this]; exact hg
theorem movesB_set (hall : ∀ f, f ∈ all ↔ FactIn p sg sl f) (hn : all.Nodup) : ∀ (l : List Mv) {s : Bits}, (∀ m ∈ l, mvB sg sl m = true) → setOf all (movesB all s l) = movesF p (setOf all s) l
 | [], _, _ => rfl
 | m :: l, s, hm => by
   show setOf all (movesB all (moveB all s m) l) = movesF p (moveF p (setOf all s) m) l
   rw [movesB_set hall hn l (fun x hx => hm x (List.mem_cons_of_mem _ hx)), moveB_set hall hn (hm m List.mem_cons_self)]

theorem giveB_set (hall : ∀ f, f ∈ all ↔ FactIn p sg sl f) (hn : all.Nodup) {i : In} (hi : InsOk p i) (hg : gvs i.op = true) {a : PlaceV} (ha : IsReg p sg sl i.d a) (hc : i ∈ p.code) : setOf all (giveB all s i a) = giveF (setOf all s) i a := by
 have hu := setOf_in hall s
 have hk := isB_kind ha.2
 have hka : a.k ≠ 0 := by omega
 refine setOf_ext hall hn (giveF_in hu hi hg ha hc) fun k hkl => ?_
 have hin := (hall _).1 (fcAt_mem hkl)
 have hat := setOf_at (s := s) hn hkl
 unfold giveB
 generalize hf : fcAt all k = f at *
 have hfi : ∀ g, setOf all s g → findB all s g = true := fun g => findB_iff.2
 have hov : f.pl = a → ovP f.pl a = true := fun e => by rw [e, ovP_self]
 have hz : f.pl.k = 0 → f.pl = ⟨0, 0⟩ := fun h => (factIn_k0 hin h).1
 have hmine : (f.temp && decide (f.t = i.d)) = true ↔ f.temp = true ∧ f.t = i.d := by simp
 have hover : (decide (f.pl.k ≠ 0) && ovP f.pl a) = false ↔ f.pl.k = 0 ∨ ovP f.pl a = false := by
   cases ovP f.pl a <;> simp
 have hn0 : f.temp = true → f.pl.k ≠ 0 → f.n = 0 := fun h1 h2 => (factIn_temp hin h2 h1).2.1
 have ht0 : f.temp = false → f.t = 0 := fun h1 => (factIn_num hin h1).2.1
 constructor
 · intro h
   have h00 : ∀ o0 : Bool, o0 = (if f.pl = a ∧ (f.temp && decide (f.t = i.d)) = true ∧ f.pl.k ≠ 0 then true else s k && !(f.temp && decide (f.t = i.d)) && !(decide (f.pl.k ≠ 0) && ovP f.pl a)) → o0 = true → giveF (setOf all s) i a f := by
     rintro o0 rfl h
     split at h
     · rename_i c
       obtain ⟨c1, c2, c3⟩ := c
       obtain ⟨c4, c5⟩ := hmine.1 c2
       refine Or.inr (Or.inr (Or.inr ?_))
       have := hn0 c4 c3
       clear h hat hf hin hov hz hmine hover hn0 ht0 c2
       obtain ⟨pl, temp, t, n⟩ := f
       simp only at c1 c3 c4 c5 this
       subst c1; subst c4; subst c5; subst this; rfl
     · rw [Bool.and_eq_true, Bool.and_eq_true, Bool.not_eq_true', Bool.not_eq_true'] at h
       obtain ⟨⟨h1, h2⟩, h3⟩ := h
       refine Or.inl ⟨hat.2 h1, hover.1 h3, ?_⟩
       cases ht : f.temp with
       | false => exact Or.inl rfl
       | true => right; intro e; rw [ht, e] at h2; simp at h2
   by_cases o2 : i.op = 2
   · have o1 : i.op ≠ 1 := by omega
     simp only [if_pos o2, if_neg o1] at h
     split at h
     · rename_i c
       obtain ⟨c1, c2, c3⟩ := c
       refine Or.inr (Or.inr (Or.inl ⟨o2, Or.inr ?_⟩))
       have := hn0 c2 (by rw [c1]; exact hka)
       clear h hat hf hin hov hz hmine hover hn0 ht0 h00
       obtain ⟨pl, temp, t, n⟩ := f
       simp only at c1 c2 c3 this
       subst c1; subst c2; subst c3; subst this; rfl
     · split at h
       · rename_i c
         obtain ⟨c1, c2⟩ := c
         refine Or.inr (Or.inr (Or.inl ⟨o2, Or.inl ⟨_, findB_iff.1 h, rfl, rfl, Or.inl ⟨rfl, Or.inr ?_⟩⟩⟩))
         have := ht0 c2
         clear h hat hf hin hov hz hmine hover hn0 ht0 h00
         obtain ⟨pl, temp, t, n⟩ := f
         simp only at c1 c2 this
         subst c1; subst c2; subst this; rfl
       · split at h
         · rename_i c
           obtain ⟨c1, c2⟩ := c
           obtain ⟨c4, c5⟩ := hmine.1 c1
           have hg := findB_iff.1 h
           refine Or.inr (Or.inr (Or.inl ⟨o2, Or.inl ⟨_, hg, c4, rfl, ?_⟩⟩))
           by_cases hk0 : f.pl.k = 0
           · refine Or.inl ⟨hk0, Or.inl ?_⟩
             have := hz hk0
             clear h hat hf hin hov hz hmine hover hn0 ht0 h00 c1 c2 hk0 hg
             obtain ⟨pl, temp, t, n⟩ := f
             simp only at c4 c5 this
             subst c4; subst c5; subst this; rfl
           · refine Or.inr ⟨hk0, (hover.1 c2).resolve_left hk0, ?_⟩
             have := hn0 c4 hk0
             clear h hat hf hin hov hz hmine hover hn0 ht0 h00 c1 c2 hk0 hg
             obtain ⟨pl, temp, t, n⟩ := f
             simp only at c4 c5 this
             subst c4; subst c5; subst this; rfl
         · exact h00 _ rfl h
   · by_cases o1 : i.op = 1
     · simp only [if_neg o2, if_pos o1] at h
       split at h
       · rename_i c
         obtain ⟨c1, c2, c3⟩ := c
         obtain ⟨c4, c5⟩ := hmine.1 c1
         refine Or.inr (Or.inl ⟨o1, Or.inl ⟨_, findB_iff.1 h, rfl, rfl, (hover.1 c3).resolve_left c2, ?_⟩⟩)
         have := hn0 c4 c2
         clear h hat hf hin hov hz hmine hover hn0 ht0 h00 c1 c2 c3
         obtain ⟨pl, temp, t, n⟩ := f
         simp only at c4 c5 this
         subst c4; subst c5; subst this; rfl
       · split at h
         · rename_i c
           have hnn := of_decide_eq_true h
           rcases c with ⟨c1, c2⟩ | ⟨c1, c2⟩
           · obtain ⟨c4, c5⟩ := hmine.1 c1
             refine Or.inr (Or.inl ⟨o1, Or.inr (Or.inl ?_)⟩)
             have := hz c2
             clear h hat hf hin hov hz hmine hover hn0 ht0 h00 c1 c2
             obtain ⟨pl, temp, t, n⟩ := f
             simp only at c4 c5 this hnn
             subst c4; subst c5; subst this; subst hnn; rfl
           · refine Or.inr (Or.inl ⟨o1, Or.inr (Or.inr ?_)⟩)
             have := ht0 c2
             clear h hat hf hin hov hz hmine hover hn0 ht0 h00
             obtain ⟨pl, temp, t, n⟩ := f
             simp only at c1 c2 this hnn
             subst c1; subst c2; subst this; subst hnn; rfl
         · exact h00 _ rfl h
     · simp only [if_neg o2, if_neg o1] at h
       exact h00 _ rfl h
 · have hfin : ∀ g, setOf all s g → FactIn p sg sl g := hu
   have hkn : ∀ g, setOf all s g → g.temp = true → g.pl.k = 0 → g = ⟨⟨0, 0⟩, true, g.t, g.n⟩ := by
     intro g hg h1 h2
     obtain ⟨q1, q2, _⟩ := factIn_k0 (hu g hg) h2
     obtain ⟨pl, temp, t, n⟩ := g
     simp only at q1 q2
     subst q1; subst q2; rfl
   have hhs : ∀ g, setOf all s g → g.temp = true → g.pl.k ≠ 0 → g = ⟨g.pl, true, g.t, 0⟩ := by
     intro g hg h1 h2
     obtain ⟨_, q1, _⟩ := factIn_temp (hu g hg) h2 h1
     obtain ⟨pl, temp, t, n⟩ := g
     simp only at q1 h1
     subst q1; subst h1; rfl
   have hnm : ∀ g, setOf all s g → g.temp = false → g = ⟨g.pl, false, 0, g.n⟩ ∧ g.pl.k ≠ 0 := by
     intro g hg h1
     obtain ⟨q0, q1, _⟩ := factIn_num (hu g hg) h1
     have := isB_kind q0
     obtain ⟨pl, temp, t, n⟩ := g
     simp only at q1 h1 this
     subst q1; subst h1; exact ⟨rfl, by simp only; omega⟩
   have hself := ovP_self a
   have hfar : ∀ x : PlaceV, ovP x a = false → x ≠ a := by rintro x h rfl; rw [hself] at h; cases h
   rintro (⟨h1, h2, h3⟩ | ⟨o1, ⟨g, hg, ht, hnn, hov2, rfl⟩ | rfl | rfl⟩ | ⟨o2, ⟨g, hg, ht, hga, ⟨h0, rfl | rfl⟩ | ⟨h0, hov2, rfl⟩⟩ | rfl⟩ | rfl)
   · have m0 : (f.temp && decide (f.t = i.d)) = false := by
       rcases h3 with h3 | h3 <;> simp [h3]
     have ov0 := hover.2 h2
     have hne : f.pl ≠ a := by
       rintro e
       rcases h2 with h2 | h2
       · rw [e] at h2; exact hka h2
       · rw [hov e] at h2; cases h2
     simp [m0, ov0, hne, hat.1 h1]
     exact h2
   · have hgk := hnm g hg ht
     have := hfi _ hg
     rw [hgk.1, hnn] at this
     have hx := hfar _ hov2
     simp [hasF, o1, hgk.2, hov2, this]
   · have hx : (⟨0, 0⟩ : PlaceV) ≠ a := by rintro rfl; exact hka rfl
     simp [knF, o1]
   · simp [isF, o1]
   · have := hfi _ hg
     rw [hkn g hg ht h0, hga] at this
     have hx : (⟨0, 0⟩ : PlaceV) ≠ a := by rintro rfl; exact hka rfl
     simp [knF, o2, this, hx]
   · have := hfi _ hg
     rw [hkn g hg ht h0, hga] at this
     simp [isF, o2, this]
   · have := hfi _ hg
     rw [hhs g hg ht h0, hga] at this
     have hx := hfar _ hov2
     simp [hasF, o2, this, hx, hov2]
   · simp [hasF, o2]
   · by_cases o2 : i.op = 2
     · by_cases e : i.d = i.a
       · simp [hasF, o2, e]
       · simp [hasF, o2, hself, hka]
     · by_cases o1 : i.op = 1
       · simp [hasF, o1, hself, hka]
       · simp [hasF, o1, o2, hka]
theorem insBt_set (hall : ∀ f, f ∈ all ↔ FactIn p sg sl f) (hn : all.Nodup) {i : In} (hi : InsOk p i) {a : PlaceV} (ha : gvs i.op = true → IsReg p sg sl i.d a) (hc : i ∈ p.code) : setOf all (insBt all s i a) = insF (setOf all s) i a := by
 unfold insBt insF
 split
 · rename_i hg
   exact giveB_set hall hn hi hg (ha hg) hc
 · rfl
theorem thruB_set (hall : ∀ f, f ∈ all ↔ FactIn p sg sl f) (hn : all.Nodup) {i : In} (hi : InsOk p i) (hc : i ∈ p.code) {r : Rw} (hr : rwB p sg sl i r = true) : setOf all (thruB all s i r) = thruF p (setOf all s) i r := by
 obtain ⟨r1, r2, r3, _⟩ := rwB_facts hr hi.kn
 unfold thruB thruF
 rw [movesB_set hall hn _ r2, insBt_set hall hn hi r3 hc, movesB_set hall hn _ r1]
theorem tookB_iff (hall : ∀ f, f ∈ all ↔ FactIn p sg sl f) (hn : all.Nodup) {i : In} (hi : InsOk p i) {r : Rw} (hr : rwB p sg sl i r = true) : tookB all s i r = true ↔ tookF p (setOf all s) i r := by
 obtain ⟨r1, _⟩ := rwB_facts hr hi.kn
 unfold tookB tookF
 rw [← movesB_set hall hn _ r1, Bool.and_eq_true, Bool.or_eq_true, Bool.or_eq_true, findB_iff, findB_iff]
 constructor
 · rintro ⟨h1, h2⟩
   exact ⟨fun h => h1.resolve_left (by simp [h]), fun h => h2.resolve_left (by simp [h])⟩
 · rintro ⟨h1, h2⟩
   constructor
   · by_cases h : 0 < many i.op
     · exact Or.inr (h1 h)
     · exact Or.inl (by simp [h])
   · by_cases h : 1 < many i.op
     · exact Or.inr (h2 h)
     · exact Or.inl (by simp [h])
end
end Go.Proofs.Ytodmkjeankbieab


namespace Go.Proofs.Ytodmkjeankbieab

def sumN (n : Nat) (f : Nat → Nat) : Nat := ((List.range n).map f).sum
theorem sumN_s (n : Nat) (f : Nat → Nat) : sumN (n + 1) f = sumN n f + f n := by
 unfold sumN
 rw [List.range_succ, List.map_append, List.sum_append]; simp
theorem sumN_le {f g : Nat → Nat} : ∀ {n : Nat}, (∀ k, k < n → f k ≤ g k) → sumN n f ≤ sumN n g
 | 0, _ => Nat.le_refl _
 | n + 1, h => by
   rw [sumN_s, sumN_s]
   have := h n (by omega)
   have := sumN_le (n := n) fun k hk => h k (by omega)
   omega
theorem sumN_lt {f g : Nat → Nat} : ∀ {n k : Nat}, (∀ k, k < n → f k ≤ g k) → k < n → f k < g k → sumN n f < sumN n g
 | 0, _, _, hk, _ => by omega
 | n + 1, k, h, hk, hlt => by
   rw [sumN_s, sumN_s]
   by_cases e : k = n
   · subst e
     have := sumN_le (n := k) fun j hj => h j (by omega)
     omega
   · have := sumN_lt (n := n) (k := k) (fun j hj => h j (by omega)) (by omega) hlt
     have := h n (by omega)
     omega
def bN (b : Bool) : Nat := if b then 1 else 0
theorem bN_le {a b : Bool} (h : a = true → b = true) : bN a ≤ bN b := by
 cases a <;> cases b <;> simp_all [bN]
def cntB (len : Nat) (r : Bits) : Nat := sumN len fun i => bN (r i)
theorem cntB_le {len : Nat} {r s : Bits} (h : ∀ i, i < len → r i = true → s i = true) : cntB len r ≤ cntB len s := sumN_le fun i hi => bN_le (h i hi)
theorem cntB_lt {len i : Nat} {r s : Bits} (h : ∀ i, i < len → r i = true → s i = true) (hi : i < len) (h1 : s i = true) (h2 : r i = false) : cntB len r < cntB len s :=
 sumN_lt (fun i hi => bN_le (h i hi)) hi (by simp [bN, h1, h2])
def leftN (n len : Nat) (S : Nat → Bits) (c : Bits) : Nat := sumN n fun k => cntB len (S k) + bN (!c k)

def updB (S : Nat → Bits) (k : Nat) (r : Bits) : Nat → Bits := fun x => if x = k then r else S x
theorem updB_same {S : Nat → Bits} {k : Nat} {r : Bits} : updB S k r k = r := if_pos rfl
theorem updB_ne {S : Nat → Bits} {k x : Nat} {r : Bits} (h : x ≠ k) : updB S k r x = S x := if_neg h
def onB (c : Bits) (k : Nat) : Bits := fun x => if x = k then true else c x
theorem onB_same {c : Bits} {k : Nat} : onB c k k = true := if_pos rfl
theorem onB_mono {c : Bits} {k x : Nat} (h : c x = true) : onB c k x = true := by unfold onB; split <;> simp [h]
theorem onB_eq {c : Bits} {k : Nat} (h : c k = true) : onB c k = c := by
 funext x; unfold onB; split
 · rename_i e; subst e; exact h.symm
 · rfl
def andTo (r s : Bits) (i : Nat) : Bits := fun x => if x < i then r x && s x else r x
theorem andTo_z (r s : Bits) : andTo r s 0 = r := rfl
theorem andTo_drop {r s : Bits} {i : Nat} (h : r i = true) (hs : s i = false) : andTo r s (i + 1) = fun x => if x = i then false else andTo r s i x := by
 funext x
 unfold andTo
 by_cases e : x = i
 · subst e; simp [hs]
 · rw [if_neg e]
   by_cases l : x < i
   · rw [if_pos l, if_pos (by omega)]
   · rw [if_neg l, if_neg (by omega)]
theorem andTo_stay {r s : Bits} {i : Nat} (h : ¬ (r i = true ∧ s i = false)) : andTo r s (i + 1) = andTo r s i := by
 funext x
 unfold andTo
 by_cases e : x = i
 · subst e
   cases hr : r x <;> cases hs : s x <;> simp_all
 · by_cases l : x < i
   · rw [if_pos l, if_pos (by omega)]
   · rw [if_neg l, if_neg (by omega)]
theorem andTo_at (r s : Bits) (i : Nat) : andTo r s i i = r i := by unfold andTo; simp
def fallB (r s : Bits) (i : Nat) : Bool := (List.range i).any fun x => r x && !s x
theorem fallB_s (r s : Bits) (i : Nat) : fallB r s (i + 1) = (fallB r s i || (r i && !s i)) := by
 unfold fallB
 rw [List.range_succ, List.any_append]; simp
theorem fallB_not {r s : Bits} {i : Nat} (h : fallB r s i = false) : andTo r s i = r ∧ ∀ x, x < i → r x = true → s x = true := by
 have hh : ∀ x, x < i → r x = true → s x = true := by
   intro x hx hr
   unfold fallB at h
   have := (List.any_eq_false.1 h) x (List.mem_range.2 hx)
   cases hs : s x with
   | true => rfl
   | false => rw [hr, hs] at this; simp at this
 refine ⟨?_, hh⟩
 funext x
 unfold andTo
 split
 · rename_i hx
   cases hr : r x with
   | false => rfl
   | true => rw [hh x hx hr]; rfl
 · rfl

section
variable {p : Pg} {sg : Int} {l : Pd} {all : List Fc}
structure Rnd (p : Pg) (sg : Int) (l : Pd) (all : List Fc) (S : Nat → Bits) (c : Bits) : Prop where
 z : c 0 = true
 come : ∀ k, k < p.code.length → c k = true → Come p.code k
 b0 : ∀ f, setOf all (S 0) f → beginF p sg l.slots f
 sup : ∀ k f, Kn p sg l k f → setOf all (S k) f
def Shut (p : Pg) (l : Pd) (all : List Fc) (S : Nat → Bits) (c : Bits) (k : Nat) : Prop := ∀ m ∈ nx p.code k, c m = true ∧ ∀ f, setOf all (S m) f → thru p l k (setOf all (S k)) f

theorem Rnd.step (hn : all.Nodup) {S : Nat → Bits} {c : Bits} (h : Rnd p sg l all S c) {k m : Nat} {s : Bits} (hk : Come p.code k) (hs : ∀ f, thru p l k (Kn p sg l k) f → setOf all s f) (hm : m ∈ nx p.code k) :
   Rnd p sg l all (updB S m (andTo (S m) s all.length)) (onB c m) := by
 refine ⟨onB_mono h.z, fun x hx hc => ?_, fun f hf => ?_, fun x f hf => ?_⟩
 · by_cases e : x = m
   · subst e; exact hk.next hm
   · unfold onB at hc; rw [if_neg e] at hc; exact h.come x hx hc
 · by_cases e : 0 = m
   · subst e
     rw [updB_same] at hf
     obtain ⟨i, hi, e, hb⟩ := hf
     unfold andTo at hb
     rw [if_pos hi, Bool.and_eq_true] at hb
     exact h.b0 f ⟨i, hi, e, hb.1⟩
   · rw [updB_ne e] at hf; exact h.b0 f hf
 · by_cases e : x = m
   · subst e
     rw [updB_same]
     obtain ⟨i, hi, ei, hb⟩ := h.sup x f hf
     refine ⟨i, hi, ei, ?_⟩
     unfold andTo
     rw [if_pos hi, hb]
     have := hs f (Kn_sol.2 k hk x hm f hf)
     rw [← ei, setOf_at hn hi] at this
     rw [this]; rfl
   · rw [updB_ne e]; exact h.sup x f hf

structure Pass (p : Pg) (sg : Int) (l : Pd) (all : List Fc) (S0 : Nat → Bits) (c0 : Bits) (S : Nat → Bits) (c : Bits) (a tk : Bool) (k : Nat) : Prop where
 rnd : Rnd p sg l all S c
 eq : a = false → S = S0 ∧ c = c0
 shut : a = false → ∀ x, x < k → c0 x = true → Shut p l all S0 c0 x
 tk : a = false → (tk = true ↔ ∀ x, x < k → c0 x = true → tookF p (setOf all (S0 x)) (inAt p.code x) (rwAt l.rows x))
 le : leftN p.code.length all.length S c ≤ leftN p.code.length all.length S0 c0
 lt : a = true → leftN p.code.length all.length S c < leftN p.code.length all.length S0 c0
structure PassJ (p : Pg) (sg : Int) (l : Pd) (all : List Fc) (S0 : Nat → Bits) (c0 : Bits) (S : Nat → Bits) (c : Bits) (a tk : Bool) (k : Nat) (s : Bits) (ns : List Int) (j : Nat) : Prop where
 rnd : Rnd p sg l all S c
 eq : a = false → S = S0 ∧ c = c0
 shut : a = false → ∀ x, x < k → c0 x = true → Shut p l all S0 c0 x
 tk : a = false → (tk = true ↔ ∀ x, x < k + 1 → c0 x = true → tookF p (setOf all (S0 x)) (inAt p.code x) (rwAt l.rows x))
 le : leftN p.code.length all.length S c ≤ leftN p.code.length all.length S0 c0
 lt : a = true → leftN p.code.length all.length S c < leftN p.code.length all.length S0 c0
 own : a = false → setOf all s = thru p l k (setOf all (S0 k)) ∧ ∀ x ∈ ns.take j, x.toNat < p.code.length → c0 x.toNat = true ∧ ∀ f, setOf all (S0 x.toNat) f → thru p l k (setOf all (S0 k)) f
 sk : ∀ f, thru p l k (Kn p sg l k) f → setOf all s f
 come : Come p.code k

section
variable {S0 S : Nat → Bits} {c0 c : Bits} {a tk : Bool} {k j : Nat} {s : Bits} {ns : List Int}
theorem Rnd.pass (h : Rnd p sg l all S c) : Pass p sg l all S c S c false true 0 :=
 ⟨h, fun _ => ⟨rfl, rfl⟩, fun _ x hx => by omega, fun _ => ⟨fun _ x hx => by omega, fun _ => rfl⟩, Nat.le_refl _, fun h => by cases h⟩
theorem Pass.skip (h : Pass p sg l all S0 c0 S c a tk k) (hc : c k = false) : Pass p sg l all S0 c0 S c a tk (k + 1) := by
 have hno : a = false → c0 k = true → False := fun ha h0 => by rw [← (h.eq ha).2, hc] at h0; cases h0
 refine ⟨h.rnd, h.eq, fun ha x hx h0 => ?_, fun ha => ?_, h.le, h.lt⟩
 · by_cases e : x = k
   · subst e; exact (hno ha h0).elim
   · exact h.shut ha x (by omega) h0
 · rw [h.tk ha]
   constructor
   · intro hh x hx h0
     by_cases e : x = k
     · subst e; exact (hno ha h0).elim
     · exact hh x (by omega) h0
   · intro hh x hx h0; exact hh x (by omega) h0
theorem Pass.enter (h : Pass p sg l all S0 c0 S c a tk k) (hk : k < p.code.length) (hc : c k = true) (hs : setOf all s = thru p l k (setOf all (S k))) {ok : Bool} (hok : ok = true ↔ tookF p (setOf all (S k)) (inAt p.code k) (rwAt l.rows k)) (ns : List Int) :
   PassJ p sg l all S0 c0 S c a (tk && ok) k s ns 0 := by
 refine ⟨h.rnd, h.eq, h.shut, fun ha => ?_, h.le, h.lt, fun ha => ⟨by rw [hs, (h.eq ha).1], fun x hx => by simp at hx⟩, fun f hf => ?_, h.rnd.come k hk hc⟩
 · rw [Bool.and_eq_true, h.tk ha, hok, (h.eq ha).1]
   constructor
   · rintro ⟨h1, h2⟩ x hx h0
     by_cases e : x = k
     · subst e; exact h2
     · exact h1 x (by omega) h0
   · intro hh
     exact ⟨fun x hx h0 => hh x (by omega) h0, hh k (by omega) (by rw [← (h.eq ha).2]; exact hc)⟩
 · rw [hs]
   exact thruF_mono (fun g hg => h.rnd.sup k g hg) _ _ f hf
theorem PassJ.skip (h : PassJ p sg l all S0 c0 S c a tk k s ns j) {n : Int} (hn : ns[j]? = some n) (hl : ¬ n.toNat < p.code.length) : PassJ p sg l all S0 c0 S c a tk k s ns (j + 1) :=
 { h with own := fun ha => ⟨(h.own ha).1, fun x hx hlx => by
     rcases take_s hn hx with hx | rfl
     · exact (h.own ha).2 x hx hlx
     · exact absurd hlx hl⟩ }
theorem leftN_le {n len : Nat} {S S' : Nat → Bits} {c c' : Bits} (h : ∀ k, k < n → (∀ i, i < len → S' k i = true → S k i = true) ∧ (c k = true → c' k = true)) : leftN n len S' c' ≤ leftN n len S c :=
 sumN_le fun k hk => by
   have h1 := cntB_le (h k hk).1
   have h2 : bN (!c' k) ≤ bN (!c k) := bN_le fun hc => by
     cases e : c k with
     | false => rfl
     | true => rw [(h k hk).2 e] at hc; cases hc
   omega
theorem andTo_sub {r s : Bits} {n i : Nat} (h : andTo r s n i = true) : r i = true := by
 unfold andTo at h
 split at h
 · rw [Bool.and_eq_true] at h; exact h.1
 · exact h
theorem leftN_put_le {n len m : Nat} {S : Nat → Bits} {c s : Bits} : leftN n len (updB S m (andTo (S m) s len)) (onB c m) ≤ leftN n len S c :=
 leftN_le fun k _ => ⟨fun i _ hi => by
   by_cases e : k = m
   · subst e; rw [updB_same] at hi; exact andTo_sub hi
   · rw [updB_ne e] at hi; exact hi, fun hc => onB_mono hc⟩
theorem leftN_put_lt {n len m : Nat} {S : Nat → Bits} {c s : Bits} (hm : m < n) (h : (!c m || fallB (S m) s len) = true) : leftN n len (updB S m (andTo (S m) s len)) (onB c m) < leftN n len S c := by
 have hle : ∀ k, k < n → cntB len (updB S m (andTo (S m) s len) k) + bN (!onB c m k) ≤ cntB len (S k) + bN (!c k) := by
   intro k _
   have h1 : cntB len (updB S m (andTo (S m) s len) k) ≤ cntB len (S k) := cntB_le fun i _ hi => by
     by_cases e : k = m
     · subst e; rw [updB_same] at hi; exact andTo_sub hi
     · rw [updB_ne e] at hi; exact hi
   have h2 : bN (!onB c m k) ≤ bN (!c k) := bN_le fun hc => by
     cases e : c k with
     | false => rfl
     | true => rw [onB_mono e] at hc; cases hc
   omega
 refine sumN_lt hle hm ?_
 rw [updB_same, onB_same]
 have h1 : cntB len (andTo (S m) s len) ≤ cntB len (S m) := cntB_le fun i _ hi => andTo_sub hi
 by_cases hc : c m = true
 · rw [hc] at h
   simp only [Bool.not_true, Bool.false_or] at h
   unfold fallB at h
   obtain ⟨i, hi, hh⟩ := List.any_eq_true.1 h
   rw [List.mem_range] at hi
   rw [Bool.and_eq_true, Bool.not_eq_true'] at hh
   have := cntB_lt (len := len) (i := i) (r := andTo (S m) s len) (s := S m) (fun i _ hi => andTo_sub hi) hi hh.1 (by unfold andTo; rw [if_pos hi, hh.2, Bool.and_false])
   rw [hc]; omega
 · have hc : c m = false := by simpa using hc
   rw [hc]
   show _ + 0 < _ + 1
   omega
theorem PassJ.put (hnd : all.Nodup) (h : PassJ p sg l all S0 c0 S c a tk k s ns j) {n : Int} (hn : ns[j]? = some n) (hm : n.toNat ∈ nx p.code k) :
   PassJ p sg l all S0 c0 (updB S n.toNat (andTo (S n.toNat) s all.length)) (onB c n.toNat) (a || !c n.toNat || fallB (S n.toNat) s all.length) tk k s ns (j + 1) := by
 have hsame : (a || !c n.toNat || fallB (S n.toNat) s all.length) = false → a = false ∧ updB S n.toNat (andTo (S n.toNat) s all.length) = S ∧ onB c n.toNat = c ∧ c n.toNat = true ∧ fallB (S n.toNat) s all.length = false := by
   intro hh
   rw [Bool.or_eq_false_iff, Bool.or_eq_false_iff] at hh
   obtain ⟨⟨h1, h2⟩, h3⟩ := hh
   have h2 : c n.toNat = true := by simpa using h2
   refine ⟨h1, ?_, onB_eq h2, h2, h3⟩
   funext x
   by_cases e : x = n.toNat
   · subst e; rw [updB_same, (fallB_not h3).1]
   · exact updB_ne e
 have hml : n.toNat < p.code.length := nx_lt hm
 refine ⟨h.rnd.step hnd h.come h.sk hm, fun ha => ?_, fun ha => h.shut (hsame ha).1, fun ha => h.tk (hsame ha).1, Nat.le_trans leftN_put_le h.le, fun ha => ?_, fun ha => ?_, h.sk, h.come⟩
 · obtain ⟨h1, h2, h3, _⟩ := hsame ha
   rw [h2, h3]; exact h.eq h1
 · by_cases h1 : a = true
   · exact Nat.lt_of_le_of_lt leftN_put_le (h.lt h1)
   · have h1 : a = false := by simpa using h1
     rw [h1, Bool.false_or] at ha
     exact Nat.lt_of_lt_of_le (leftN_put_lt hml ha) h.le
 · obtain ⟨h1, h2, h3, h4, h5⟩ := hsame ha
   obtain ⟨o1, o2⟩ := h.own h1
   obtain ⟨e1, e2⟩ := h.eq h1
   refine ⟨o1, fun x hx hlx => ?_⟩
   rcases take_s hn hx with hx | rfl
   · exact o2 x hx hlx
   · rw [← e1, ← e2]
     refine ⟨h4, fun f hf => ?_⟩
     rw [e1, ← o1]
     obtain ⟨i, hi, e, hb⟩ := hf
     exact ⟨i, hi, e, (fallB_not h5).2 i hi hb⟩
theorem PassJ.done (h : PassJ p sg l all S0 c0 S c a tk k s (nexts (inAt p.code k) k) (nexts (inAt p.code k) k).length) : Pass p sg l all S0 c0 S c a tk (k + 1) := by
 refine ⟨h.rnd, h.eq, fun ha x hx h0 => ?_, h.tk, h.le, h.lt⟩
 by_cases e : x = k
 · subst e
   intro m hm
   unfold nx at hm
   obtain ⟨hm1, hm2⟩ := List.mem_filter.1 hm
   obtain ⟨n, hn, rfl⟩ := List.mem_map.1 hm1
   exact (h.own ha).2 n (by rw [List.take_length]; exact hn) (by simpa using hm2)
 · exact h.shut ha x (by omega) h0
theorem Pass.end (h : Pass p sg l all S0 c0 S c false tk p.code.length) (h0 : 0 < p.code.length) :
   (∀ k, k < p.code.length → c k = true → Come p.code k) ∧ (∀ k, Come p.code k → c k = true ∧ setOf all (S k) = Kn p sg l k) ∧ (tk = true ↔ Taken p sg l) := by
 obtain ⟨e1, e2⟩ := h.eq rfl
 have hsh := h.shut rfl
 rw [← e1, ← e2] at hsh
 have hc : ∀ k, Come p.code k → c k = true := Come.ind h.rnd.z fun k m hk hck hm => (hsh k (hk.lt h0) hck m hm).1
 have hsol : IsSol p sg l (fun k => setOf all (S k)) := ⟨h.rnd.b0, fun k hk m hm f hf => (hsh k (hk.lt h0) (hc k hk) m hm).2 f hf⟩
 have heq : ∀ k, Come p.code k → setOf all (S k) = Kn p sg l k := fun k hk => funext fun f => propext ⟨fun hf => Kn_max hsol hk hf, h.rnd.sup k f⟩
 refine ⟨h.rnd.come, fun k hk => ⟨hc k hk, heq k hk⟩, ?_⟩
 rw [h.tk rfl, ← e1, ← e2]
 constructor
 · intro hh k hk
   rw [← heq k hk]; exact hh k (hk.lt h0) (hc k hk)
 · intro hh k hk hck
   have := h.rnd.come k hk hck
   rw [heq k this]; exact hh k this
theorem Rnd.start (hall : ∀ f, f ∈ all ↔ FactIn p sg l.slots f) (hnd : all.Nodup) (hm : mayL p sg l = true) : Rnd p sg l all (fun k => if k = 0 then fun i => decide ((fcAt all i).n = 0) else fun _ => true) (fun k => decide (k = 0)) := by
 refine ⟨by simp, fun k _ hk => ?_, fun f hf => ?_, fun k f hf => ?_⟩
 · have := of_decide_eq_true hk; subst this; exact Come.zero _
 · obtain ⟨i, hi, e, hb⟩ := hf
   rw [if_pos rfl] at hb
   subst e
   exact ⟨(hall _).1 (fcAt_mem hi), of_decide_eq_true hb⟩
 · have hin := Kn_in hm k hf.1 f hf
   obtain ⟨i, hi, e⟩ := fcAt_of ((hall f).2 hin)
   refine ⟨i, hi, e, ?_⟩
   by_cases h0 : k = 0
   · subst h0
     rw [if_pos rfl, e]
     exact decide_eq_true ((Kn_sol (p := p) (sg := sg) (l := l)).1 f hf).2
   · rw [if_neg h0]
end
end
end Go.Proofs.Ytodmkjeankbieab


namespace Go.Proofs.Ytodmkjeankbieab

def plK (k : Int) (n : Nat) : List PlaceV := (List.range n).map fun (i : Nat) => (⟨k, (i : Int)⟩ : PlaceV)
theorem plK_s (k : Int) (n : Nat) : plK k (n + 1) = plK k n ++ [⟨k, (n : Int)⟩] := by unfold plK; rw [List.range_succ, List.map_append]; rfl
def manyP (sg sl : Nat) (k : Nat) : Nat := if k = 1 then sg else if k = 2 then sg / 2 else if k = 3 then sl else 0
def preL (sg sl : Nat) (k n : Nat) : List PlaceV := if k = 1 then plK 1 n else if k = 2 then plK 1 sg ++ plK 2 n else plK 1 sg ++ plK 2 (sg / 2) ++ plK 3 n
theorem placesL_eq (sg sl : Nat) : placesL sg sl = plK 1 sg ++ plK 2 (sg / 2) ++ plK 3 sl := by unfold placesL plK; rw [List.append_assoc]
theorem preL_s {sg sl k n : Nat} (hk : k = 1 ∨ k = 2 ∨ k = 3) : preL sg sl k (n + 1) = preL sg sl k n ++ [⟨(k : Int), (n : Int)⟩] := by
 unfold preL
 rcases hk with rfl | rfl | rfl
 · simp [plK_s]
 · simp [plK_s]
 · simp [plK_s]
theorem preL_one (sg sl : Nat) : preL sg sl 1 0 = [] := rfl
theorem preL_two (sg sl : Nat) : preL sg sl 2 0 = preL sg sl 1 (manyP sg sl 1) := by simp [preL, manyP, plK]
theorem preL_three (sg sl : Nat) : preL sg sl 3 0 = preL sg sl 2 (manyP sg sl 2) := by simp [preL, manyP, plK]
theorem preL_end (sg sl : Nat) : preL sg sl 3 (manyP sg sl 3) = placesL sg sl := by rw [placesL_eq]; simp [preL, manyP]
theorem placesL_split {sg sl k n : Nat} (hk : k = 1 ∨ k = 2 ∨ k = 3) (hn : n < manyP sg sl k) : ∃ R, placesL sg sl = preL sg sl k n ++ ⟨(k : Int), (n : Int)⟩ :: R := by
 have hp : ∀ (k : Int) (m : Nat), n < m → ∃ R, plK k m = plK k n ++ ⟨k, (n : Int)⟩ :: R := by
   intro k m hm
   induction m with
   | zero => omega
   | succ m ih =>
     rw [plK_s]
     by_cases e : m = n
     · subst e; exact ⟨[], rfl⟩
     · obtain ⟨R, h⟩ := ih (by omega)
       exact ⟨R ++ [⟨k, (m : Int)⟩], by rw [h]; simp⟩
 rw [placesL_eq]
 rcases hk with rfl | rfl | rfl
 · obtain ⟨R, h⟩ := hp 1 sg hn
   exact ⟨R ++ plK 2 (sg / 2) ++ plK 3 sl, by rw [h]; simp [preL]⟩
 · obtain ⟨R, h⟩ := hp 2 (sg / 2) hn
   exact ⟨R ++ plK 3 sl, by rw [h]; simp [preL]⟩
 · obtain ⟨R, h⟩ := hp 3 sl hn
   exact ⟨R, by rw [h]; simp [preL]⟩

structure Seg (all : List Fc) (a : PlaceV) (st : Nat) : Prop where
 le : st ≤ all.length
 lo : ∀ j, j < st → (fcAt all j).pl ≠ a
 hi : ∀ j j', st ≤ j → j ≤ j' → j' < all.length → (fcAt all j').pl = a → (fcAt all j).pl = a
theorem fcAt_app {X Y : List Fc} {j : Nat} : fcAt (X ++ Y) j = if j < X.length then fcAt X j else fcAt Y (j - X.length) := by
 unfold fcAt
 rw [List.getD_eq_getElem?_getD, List.getD_eq_getElem?_getD, List.getD_eq_getElem?_getD]
 split
 · rename_i h; rw [List.getElem?_append_left h]
 · rename_i h; rw [List.getElem?_append_right (by omega)]
theorem Seg.of {X M Y : List Fc} {a : PlaceV} (hX : ∀ f ∈ X, f.pl ≠ a) (hM : ∀ f ∈ M, f.pl = a) (hY : ∀ f ∈ Y, f.pl ≠ a) : Seg (X ++ (M ++ Y)) a X.length := by
 refine ⟨by simp, fun j hj => ?_, fun j j' h1 h2 h3 h4 => ?_⟩
 · rw [fcAt_app, if_pos hj]; exact hX _ (fcAt_mem hj)
 · rw [fcAt_app, if_neg (by omega), fcAt_app] at h4 ⊢
   simp only [List.length_append] at h3
   by_cases e : j' - X.length < M.length
   · rw [if_pos (by omega)]; exact hM _ (fcAt_mem (by omega))
   · rw [if_neg e] at h4
     exact absurd h4 (hY _ (fcAt_mem (by omega)))

def startA (p : Pg) (ns : List Nat) (sg sl k n : Nat) : Nat := (knFs p ns ++ (preL sg sl k n).flatMap (placeFs p ns)).length
section
variable {p : Pg} {ns : List Nat} {sg sl : Nat}
theorem mem_pre {k n : Nat} (hk : k = 1 ∨ k = 2 ∨ k = 3) {R : List PlaceV} (h : placesL sg sl = preL sg sl k n ++ ⟨(k : Int), (n : Int)⟩ :: R) : (⟨(k : Int), (n : Int)⟩ : PlaceV) ∉ preL sg sl k n ∧ (⟨(k : Int), (n : Int)⟩ : PlaceV) ∉ R := by
 have hn := placesL_nodup sg sl
 rw [h, List.nodup_append] at hn
 obtain ⟨_, h2, h3⟩ := hn
 exact ⟨fun hc => h3 _ hc _ List.mem_cons_self rfl, (List.nodup_cons.1 h2).1⟩
theorem seg_at {k n : Nat} (hk : k = 1 ∨ k = 2 ∨ k = 3) (hn : n < manyP sg sl k) : Seg (allFs p ns sg sl) ⟨(k : Int), (n : Int)⟩ (startA p ns sg sl k n) := by
 obtain ⟨R, hR⟩ := placesL_split hk hn
 obtain ⟨h1, h2⟩ := mem_pre hk hR
 unfold allFs startA
 rw [hR, List.flatMap_append, List.flatMap_cons, ← List.append_assoc]
 refine Seg.of ?_ (fun f hf => placeFs_pl hf) ?_
 · intro f hf e
   rcases List.mem_append.1 hf with hf | hf
   · rw [knFs_pl hf] at e
     injection e with e _
     omega
   · obtain ⟨a, ha, hfa⟩ := List.mem_flatMap.1 hf
     rw [placeFs_pl hfa] at e
     exact h1 (e ▸ ha)
 · intro f hf e
   obtain ⟨a, ha, hfa⟩ := List.mem_flatMap.1 hf
   rw [placeFs_pl hfa] at e
   exact h2 (e ▸ ha)
theorem seg_zero : Seg (allFs p ns sg sl) ⟨0, 0⟩ 0 := by
 have := Seg.of (X := []) (M := knFs p ns) (Y := (placesL sg sl).flatMap (placeFs p ns)) (a := ⟨0, 0⟩) (fun f hf => by cases hf) (fun f hf => knFs_pl hf) (fun f hf e => by
   obtain ⟨a, ha, hfa⟩ := List.mem_flatMap.1 hf
   rw [placeFs_pl hfa] at e
   have := isB_kind (placesL_mem.1 ha)
   rw [e] at this
   simp at this)
 exact this
theorem Seg.none {all : List Fc} {a : PlaceV} {st i : Nat} {s : Bits} {f : Fc} (h : Seg all a st) (hf : f.pl = a) (h1 : st ≤ i) (hno : ∀ j, st ≤ j → j < i → fcAt all j ≠ f) (he : all.length ≤ i ∨ (fcAt all i).pl ≠ a) : findB all s f = false := by
 apply findB_none
 intro j hj e
 by_cases h2 : j < st
 · exact h.lo j h2 (by rw [e, hf])
 · by_cases h3 : j < i
   · exact hno j (by omega) h3 e
   · rcases he with he | he
     · omega
     · exact he (h.hi i j h1 (by omega) hj (by rw [e, hf]))
end
end Go.Proofs.Ytodmkjeankbieab


namespace Go.Proofs.Ytodmkjeankbieab

section
open Classical
noncomputable def cntF (p : Pg) (sg sl : Nat) (S : FS) : Nat := ((factsL p sg sl).filter fun f => decide (S f)).length
theorem filter_le {α : Type} {P Q : α → Bool} : ∀ {l : List α}, (∀ x ∈ l, P x = true → Q x = true) → (l.filter P).length ≤ (l.filter Q).length
 | [], _ => Nat.le_refl _
 | x :: l, h => by
   have ih := filter_le (l := l) fun y hy => h y (List.mem_cons_of_mem _ hy)
   have hx := h x List.mem_cons_self
   rw [List.filter_cons, List.filter_cons]
   cases hp : P x with
   | false => cases hq : Q x <;> simp <;> omega
   | true => rw [hx hp]; simp; omega
theorem filter_lt {α : Type} {P Q : α → Bool} {y : α} : ∀ {l : List α}, (∀ x ∈ l, P x = true → Q x = true) → y ∈ l → Q y = true → P y = false → (l.filter P).length < (l.filter Q).length
 | [], _, hy, _, _ => by cases hy
 | x :: l, h, hy, h1, h2 => by
   have hx := h x List.mem_cons_self
   rw [List.filter_cons, List.filter_cons]
   rcases List.mem_cons.1 hy with rfl | hy
   · have ih := filter_le (l := l) fun z hz => h z (List.mem_cons_of_mem _ hz)
     rw [h2, h1]; simp; omega
   · have ih := filter_lt (l := l) (fun z hz => h z (List.mem_cons_of_mem _ hz)) hy h1 h2
     cases hp : P x with
     | false => cases hq : Q x <;> simp <;> omega
     | true => rw [hx hp]; simp; omega
theorem cntF_all {p : Pg} {sg sl : Nat} {S : FS} : cntF p sg sl S ≤ (factsL p sg sl).length := List.length_filter_le _ _
theorem cntF_lt {p : Pg} {sg sl : Nat} {S S' : FS} (h : ∀ f, S' f → S f) {f : Fc} (hi : FactIn p sg sl f) (h1 : S f) (h2 : ¬ S' f) : cntF p sg sl S' < cntF p sg sl S :=
 filter_lt (fun f _ hf => decide_eq_true (h f (of_decide_eq_true hf))) (factsL_mem hi) (decide_eq_true h1) (decide_eq_false h2)
end
noncomputable def potF (p : Pg) (sg sl : Nat) : Option FS → Nat
 | none => (factsL p sg sl).length + 1
 | some S => cntF p sg sl S
noncomputable def workM (p : Pg) (sg sl : Nat) (A : Nat → Option FS) (wk : List Nat) : Nat := 2 * sumN p.code.length (fun k => potF p sg sl (A k)) + wk.length
section
variable {p : Pg} {sg sl : Nat} {A : Nat → Option FS} {wk : List Nat} {m : Nat} {s : FS}
theorem workM_pop {k : Nat} : workM p sg sl A (k :: wk) = workM p sg sl A wk + 1 := by unfold workM; simp; omega
theorem workM_put (hm : m < p.code.length) (h : potF p sg sl (some s) < potF p sg sl (A m)) : workM p sg sl (setA A m s) (wk ++ [m]) < workM p sg sl A wk := by
 have : sumN p.code.length (fun k => potF p sg sl (setA A m s k)) < sumN p.code.length (fun k => potF p sg sl (A k)) := by
   refine sumN_lt (fun k _ => ?_) hm (by simp only [setA_same]; exact h)
   by_cases e : k = m
   · subst e; simp only [setA_same]; omega
   · simp only [setA_ne e]; exact Nat.le_refl _
 unfold workM
 simp
 omega
theorem workM_new (hm : m < p.code.length) (h : A m = none) : workM p sg sl (setA A m s) (wk ++ [m]) < workM p sg sl A wk :=
 workM_put hm (by rw [h]; exact Nat.lt_succ_of_le cntF_all)
theorem workM_less {s1 : FS} (hm : m < p.code.length) (h : A m = some s1) (hs : ∀ f, s f → s1 f) {f : Fc} (hi : FactIn p sg sl f) (h1 : s1 f) (h2 : ¬ s f) : workM p sg sl (setA A m s) (wk ++ [m]) < workM p sg sl A wk :=
 workM_put hm (by rw [h]; exact cntF_lt hs hi h1 h2)
theorem workM_same {s1 : FS} (h : A m = some s1) (hs : ∀ f, s f ↔ s1 f) : workM p sg sl (setA A m s) wk = workM p sg sl A wk := by
 have : setA A m s = A := by
   funext x
   by_cases e : x = m
   · subst e
     rw [setA_same, h]
     congr 1
     funext f
     exact propext (hs f)
   · exact setA_ne e
 rw [this]
end
end Go.Proofs.Ytodmkjeankbieab


namespace Go.Proofs.Ytodmkjeankbieab
open Go.RowKit Go.Sort

def QRow (w : World) (base : Nat) (e : TypeId) (v : Value) (l : List Value) : Prop :=
 ∃ (g off cap : Nat) (cur : Array Value), v = .slice (some ⟨g, off, none⟩) l.length cap ∧ base ≤ g ∧ Blk w g e cur ∧ off + cap ≤ cur.size ∧ l.length ≤ cap ∧ cap ≤ maxLen ∧ ∀ j u, l[j]? = some u → cur[off + j]? = some u
section
variable {w w' : World} {base : Nat} {e : TypeId} {v : Value} {l : List Value}
theorem QRow.kept {S : Nat → Prop} (h : QRow w base e v l) (hk : Kept S w w') (hs : ∀ g, v.ownBlock = some g → ¬ S g) : QRow w' base e v l := by
 obtain ⟨g, off, cap, cur, rfl, hb, hB, r⟩ := h
 exact ⟨g, off, cap, cur, rfl, hb, hB.kept hk (hs g rfl), r⟩
theorem QRow.fr (h : QRow w base e v l) (hk : Fr w w') : QRow w' base e v l := h.kept hk (fun _ _ h => h)
theorem QRow.blk_ne {g : Nat} {t : TypeId} {cs : Array Value} (h : QRow w base e v l) (hg : Blk w g t cs) (hne : e ≠ t) : v.ownBlock ≠ some g := by
 obtain ⟨g', off, cap, cur, rfl, hb, hB, r⟩ := h
 intro he
 have : g' = g := by simpa [Value.ownBlock] using he
 subst this
 exact hB.ne_ hg hne rfl
theorem QRow.lt (h : QRow w base e v l) {g : Nat} (hg : v.ownBlock = some g) : base ≤ g ∧ g < w.heap.size := by
 obtain ⟨g', off, cap, cur, rfl, hb, hB, r⟩ := h
 have : g' = g := by simpa [Value.ownBlock] using hg
 subst this
 exact ⟨hb, hB.lt⟩
theorem QRow.one {g : Nat} {u : Value} (hb : base ≤ g) (hB : Blk w g e #[u]) : QRow w base e (.slice (some ⟨g, 0, none⟩) 1 1) [u] :=
 ⟨g, 0, 1, #[u], rfl, hb, hB, by simp, by simp, by decide, fun j x hj => by
   match j, hj with
   | 0, hj => simpa using hj⟩
theorem QRow.pop {x : Value} (h : QRow w base e v (x :: l)) : ∃ g off cap, v = .slice (some ⟨g, off, none⟩) (l.length + 1) cap ∧ g < w.heap.size ∧ l.length + 1 ≤ cap ∧ cap ≤ maxLen ∧ w.cell? ⟨g, off, none⟩ = some x ∧ QRow w base e (.slice (some ⟨g, off + 1, none⟩) l.length (cap - 1)) l := by
 obtain ⟨g, off, cap, cur, rfl, hb, hB, hs, hl, hm, hc⟩ := h
 simp only [List.length_cons] at hl
 refine ⟨g, off, cap, rfl, hB.lt, hl, hm, (hB.cell off).trans (hc 0 x rfl), g, off + 1, cap - 1, cur, rfl, hb, hB, by omega, by omega, by omega, fun j u hj => ?_⟩
 rw [show off + 1 + j = off + (j + 1) by omega]
 exact hc (j + 1) u (by simpa using hj)
theorem QRow.of_own {b n : Nat} {xs : List Value} (h : w.ownsRow b e 1 v n xs) (hn : 0 < n) (hb : base ≤ b) : QRow w base e v xs := by
 obtain ⟨hl, h2⟩ := h
 rcases h2 with ⟨_, h0⟩ | ⟨g, cap, cur, rfl, hg, hh, hnc, hcm, hcs, ht⟩
 · omega
 · have hl1 : xs.length = n := by omega
   refine ⟨g, 0, cap, cur, by rw [hl1], by omega, hh, by omega, by omega, hcm, fun j u hj => ?_⟩
   rw [← ht, List.getElem?_take] at hj
   split at hj
   · simpa using hj
   · cases hj
variable {P : Program}
theorem QRow.push {t : TypeId} {bytes : Nat} (hT : SlTy P t e 1 bytes) (h : QRow w base e v l) {R : Nat → Prop} {A : Option Addr} {c : Nat} {u : Value} (hr : Reads w R 1 A 1 [u]) (h1 : u.oneCell' = true)
   (hbytes : (l.length + 1) * bytes ≤ 140737488355328) (h63 : l.length + 1 ≤ maxLen) (hbase : base ≤ w.heap.size) (ty : TypeId) :
   ∃ v' w', (Builtin.append_ #[t, t] ty #[v, .slice A 1 c]).run P w = .ok v' w' ∧ QRow w' base e v' (l ++ [u]) ∧ Kept (fun k => v.ownBlock = some k) w w' ∧ (v'.ownBlock = v.ownBlock ∨ ∀ g, v'.ownBlock = some g → w.heap.size ≤ g) := by
 obtain ⟨i, z, hi, hz, hsize, hby, hzs⟩ := hT.ex
 obtain ⟨g, off, cap, cur, rfl, hb, hB, hs, hl, hm, hc⟩ := h
 obtain ⟨ba, oa, rfl, _, hca⟩ := hr.2 (by omega)
 have hnews : ∀ j x, [u][j]? = some x → w.cell? ((⟨ba, oa, none⟩ : Addr).add j) = some x := fun j x hj => by rw [add_none]; exact hca j x hj
 by_cases hroom : l.length + 1 ≤ cap
 · have hcell : (w.cell? ⟨g, off + l.length, none⟩).isSome = true := by
     rw [hB.cell, Array.getElem?_eq_getElem (by omega)]; rfl
   have hrun := run_append_room_cells (P := P) (w := w) t ty e i hT.ht hi g off l.length cap ⟨ba, oa, none⟩ 1 c [u] (by simp [hsize]) hnews (by simpa using h1) hroom
     (fun j hj => by
       have : j = 0 := by simpa using hj
       subst this; rw [hsize]; simpa using hcell)
     (fun j hj => by
       have : j = 0 := by simpa using hj
       subst this; rw [hsize]; simpa using hB.frozen (off + l.length))
   have hset : w.setCells g (off + l.length * i.size) [u] = w.setCell ⟨g, off + l.length, none⟩ u := by
     rw [hsize, Nat.mul_one]; rfl
   rw [hset] at hrun
   refine ⟨_, _, hrun, ⟨g, off, cap, _, by simp, hb, hB.set_ (off + l.length) u, by simpa using hs, by simpa using hroom, hm, fun j x hj => ?_⟩, ((Kept.refl (fun k => (Value.slice (some ⟨g, off, none⟩) l.length cap).ownBlock = some k) w).setCell (p := ⟨g, off + l.length, none⟩) (fun _ => rfl) u), Or.inl rfl⟩
   rw [Array.getElem?_setIfInBounds]
   by_cases ej : j = l.length
   · subst ej
     rw [if_pos rfl, if_pos (by omega)]
     simpa using hj
   · rw [if_neg (by omega)]
     have hjl : j < l.length := by
       have := (List.getElem?_eq_some_iff.1 hj).1
       simp at this; omega
     rw [List.getElem?_append_left hjl] at hj
     exact hc j x hj
 · obtain ⟨v', w', hrun, ho, hg⟩ := run_append_arg_grows (P := P) (w := w) t ty e i z 1 bytes hT.ht hi hz hsize hby hzs (by omega) ⟨g, off, none⟩ l.length cap l (by simp) (fun j x hj => by rw [add_none, hB.cell]; exact hc j x hj) ⟨ba, oa, none⟩ 1 c [u] (by simp) hnews (by omega) h63 hbytes
   exact ⟨v', w', hrun, QRow.of_own ho (by omega) hbase, (Kept.refl _ w).grown hg (fun k _ e => by cases e), Or.inr fun g hg => (own_lt ho hg).1⟩
theorem wp_push {o : Oper} {a : Act} {K : Act → World → Prop} {Q : Exit → Act → World → Prop} {t : TypeId} {bytes : Nat} (hT : SlTy P t e 1 bytes) (s x : Operand)
   (ho : o.op = .call { callee := .builtin .append, args := #[s, x], argTypes := #[t, t] })
   (hs : a.eval s = v) (h : QRow w base e v l) (R : Nat → Prop) (A : Option Addr) (c : Nat) (u : Value) (hx : a.eval x = .slice A 1 c) (hr : Reads w R 1 A 1 [u]) (h1 : u.oneCell' = true)
   (hbytes : (l.length + 1) * bytes ≤ 140737488355328) (h63 : l.length + 1 ≤ maxLen) (hbase : base ≤ w.heap.size)
   (hK : ∀ v' w', QRow w' base e v' (l ++ [u]) → Kept (fun k => v.ownBlock = some k) w w' → (v'.ownBlock = v.ownBlock ∨ ∀ g, v'.ownBlock = some g → w.heap.size ≤ g) → K (a.put o.dst v') w') : o.wp P a w K Q := by
 obtain ⟨v', w', hrun, h2, h3, h4⟩ := h.push hT hr h1 hbytes h63 hbase o.type
 unfold Oper.wp execOp
 simp only [ho, resolve, invoke, builtin, Sem.run_bind, Sem.run_pure, Result.andThen_ok, List.map_toArray, List.map_cons, List.map_nil, hs, hx]
 rw [hrun]
 exact hK v' w' h2 h3 h4
theorem wpList_push {ops : Array Oper} {rest : List Oper} {o : Oper} {a : Act} {Q : Exit → Act → World → Prop} (hgd : o.guard = none) {t : TypeId} {bytes : Nat} (hT : SlTy P t e 1 bytes) (s x : Operand)
   (ho : o.op = .call { callee := .builtin .append, args := #[s, x], argTypes := #[t, t] })
   (hs : a.eval s = v) (h : QRow w base e v l) (R : Nat → Prop) (A : Option Addr) (c : Nat) (u : Value) (hx : a.eval x = .slice A 1 c) (hr : Reads w R 1 A 1 [u]) (h1 : u.oneCell' = true)
   (hbytes : (l.length + 1) * bytes ≤ 140737488355328) (h63 : l.length + 1 ≤ maxLen) (hbase : base ≤ w.heap.size)
   (hK : ∀ v' w', QRow w' base e v' (l ++ [u]) → Kept (fun k => v.ownBlock = some k) w w' → (v'.ownBlock = v.ownBlock ∨ ∀ g, v'.ownBlock = some g → w.heap.size ≤ g) → wpList P ops Q rest (a.put o.dst v') w') : wpList P ops Q (o :: rest) a w :=
 wpList_plain hgd fun _ hK' => wp_push hT s x ho hs h R A c u hx hr h1 hbytes h63 hbase fun v' w' h2 h3 h4 => hK' _ _ (hK v' w' h2 h3 h4)
theorem QRow.popV {t : TypeId} {bytes : Nat} (hT : SlTy P t e 1 bytes) {x : Value} (h : QRow w base e v (x :: l)) : ∃ g off cap v', v = .slice (some ⟨g, off, none⟩) (l.length + 1) cap ∧ g < w.heap.size ∧ l.length + 1 ≤ cap ∧ cap ≤ maxLen ∧ w.cell? ⟨g, off, none⟩ = some x ∧ QRow w base e v' l ∧
   ∀ w2 : World, (Instr.slice t (.slice (some ⟨g, off, none⟩) (l.length + 1) cap) (some (.int .i64 1)) none none).run P w2 = .ok v' w2 := by
 obtain ⟨i, z, hi, hz, hsize, hby, hzs⟩ := hT.ex
 obtain ⟨g, off, cap, cur, rfl, hb, hB, hs, hl, hm, hc⟩ := h
 simp only [List.length_cons] at hl
 have hu := hT.ht
 by_cases hc1 : cap = 1
 · subst hc1
   have h0 : l.length = 0 := by omega
   have hl0 : l = [] := List.eq_nil_of_length_eq_zero h0
   subst hl0
   refine ⟨g, off, 1, .slice (some ⟨g, off, none⟩) 0 0, rfl, hB.lt, by simp, by decide, (hB.cell off).trans (hc 0 x rfl), ⟨g, off, 0, cur, rfl, hb, hB, by omega, by simp, by decide, fun j u hj => by simp at hj⟩, fun w2 => ?_⟩
   have h01 : (0 : Int) ≤ 1 ∧ (1 : Int) ≤ ((1 : Nat) : Int) := by omega
   simp [Instr.slice, Instr.sliceBounds, Instr.sliceBound, asIntOf, run_underlying hu, sizeOf, typeInfo, hi, hsize]
 · refine ⟨g, off, cap, .slice (some ⟨g, off + 1, none⟩) l.length (cap - 1), rfl, hB.lt, hl, hm, (hB.cell off).trans (hc 0 x rfl), ⟨g, off + 1, cap - 1, cur, rfl, hb, hB, by omega, by omega, by omega, fun j u hj => ?_⟩, fun w2 => ?_⟩
   · rw [show off + 1 + j = off + (j + 1) by omega]
     exact hc (j + 1) u (by simpa using hj)
   · have h01 : (1 : Int) ≤ (l.length : Int) + 1 := by omega
     simp [Instr.slice, Instr.sliceBounds, Instr.sliceBound, asIntOf, run_underlying hu, sizeOf, typeInfo, hi, hsize, h01, hc1, Addr.add]
end
end Go.Proofs.Ytodmkjeankbieab


namespace Go.Proofs.Ytodmkjeankbieab

theorem ins_fields {p : Pg} {i : In} (h : insB p i = true) (hl : 1 ≤ p.wide.length) : (0 ≤ i.a ∧ i.a < p.wide.length) ∧ (0 ≤ i.b ∧ i.b < p.wide.length) ∧ (0 ≤ i.d ∧ i.d < p.wide.length) ∧ 0 ≤ i.c := by
 rw [insB_eq] at h
 unfold insR at h
 simp only [Bool.and_eq_true] at h
 obtain ⟨⟨⟨_, h2⟩, h3⟩, _⟩ := h
 obtain ⟨⟨h2, h5⟩, h6⟩ := h2
 have hf : ∀ (b : Bool) (n : Int), fieldR p.wide b n = true → 0 ≤ n ∧ n < p.wide.length := by
   intro b n hb
   cases b with
   | true => simpa [fieldR, inB] using hb
   | false => simp [fieldR] at hb; omega
 refine ⟨hf _ _ h5, hf _ _ h6, hf _ _ h2, ?_⟩
 split at h3
 · simp [inB] at h3; omega
 · simp at h3; omega

end Go.Proofs.Ytodmkjeankbieab

