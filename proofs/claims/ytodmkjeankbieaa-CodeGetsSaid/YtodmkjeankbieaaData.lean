/- The program's data as Lean lists, and what it is that memory holds them. No program in sight. -/
import Derived.Below
import Derived.Laws.OwnMore
import Derived.Deep.AppendLies
import Derived.Deep.Draws
namespace Go.Proofs.Ytodmkjeankbieaa
open Go.RowKit

/-! ### a slice that reads as a list of cells -/
theorem block_of_add (a : Addr) (n : Nat) : (a.add n).block = a.block := by unfold Addr.add; split <;> rfl
theorem add_of_add (a : Addr) (i j : Nat) : (a.add i).add j = a.add (i + j) := by
  unfold Addr.add
  by_cases hi : i = 0 <;> by_cases hj : j = 0 <;> simp [hi, hj, Nat.add_assoc]

theorem cell_lt {w : World} {b o : Nat} {v : Value} (h : w.cell? ⟨b, o, none⟩ = some v) : b < w.heap.size := by
  unfold World.cell? at h
  rcases Nat.lt_or_ge b w.heap.size with hlt | hge
  · exact hlt
  · rw [Array.getElem?_eq_none hge] at h; cases h

/-- block S-wise: of all blocks that were there, those of which S does not speak are as they were -/
structure Kept (S : Nat → Prop) (w w' : World) : Prop where
  os : w'.os = w.os
  tape : w'.tape = w.tape
  output : w'.output = w.output
  size : w.heap.size ≤ w'.heap.size
  block : ∀ k, k < w.heap.size → ¬ S k → w'.heap[k]? = w.heap[k]?

theorem Kept.refl (S : Nat → Prop) (w : World) : Kept S w w := ⟨rfl, rfl, rfl, Nat.le_refl _, fun _ _ _ => rfl⟩
theorem Kept.trans {S : Nat → Prop} {a b c : World} (h : Kept S a b) (k : Kept S b c) : Kept S a c :=
  ⟨k.os.trans h.os, k.tape.trans h.tape, k.output.trans h.output, Nat.le_trans h.size k.size, fun i hi hs => (k.block i (Nat.lt_of_lt_of_le hi h.size) hs).trans (h.block i hi hs)⟩
/-- of the second step only what was there at the first one's beginning is asked -/
theorem Kept.then {S T : Nat → Prop} {a b c : World} (h : Kept S a b) (k : Kept T b c) (ht : ∀ i, i < a.heap.size → T i → S i) : Kept S a c :=
  ⟨k.os.trans h.os, k.tape.trans h.tape, k.output.trans h.output, Nat.le_trans h.size k.size, fun i hi hs => (k.block i (Nat.lt_of_lt_of_le hi h.size) (fun hc => hs (ht i hi hc))).trans (h.block i hi hs)⟩
theorem Kept.mono {S T : Nat → Prop} {a b : World} (h : Kept S a b) (hs : ∀ i, i < a.heap.size → S i → T i) : Kept T a b :=
  ⟨h.os, h.tape, h.output, h.size, fun i hi ht => h.block i hi fun hc => ht (hs i hi hc)⟩
theorem Kept.of_below {S : Nat → Prop} {B : Nat} {a b : World} (h : Below B a b) (hs : ∀ i, i < a.heap.size → B ≤ i → S i) : Kept S a b :=
  ⟨h.os, h.tape, h.output, h.size, fun i hi hn => h.block i (Nat.lt_of_not_le fun hc => hn (hs i hi hc))⟩
theorem Kept.below {S : Nat → Prop} {B : Nat} {a b : World} (h : Kept S a b) (hB : B ≤ a.heap.size) (hs : ∀ i, S i → B ≤ i) : Below B a b :=
  ⟨h.os, h.tape, h.output, h.size, fun k hk => h.block k (by omega) fun hc => by have := hs k hc; omega⟩
theorem Kept.alloc {S : Nat → Prop} {a w : World} (h : Kept S a w) (o : Obj) : Kept S a (w.alloc o) :=
  h.trans ⟨rfl, rfl, rfl, by simp, fun k hk _ => Below.heap_alloc _ _ _ (by omega)⟩
theorem Kept.setCell {S : Nat → Prop} {a w : World} (h : Kept S a w) {p : Addr} (hp : p.block < a.heap.size → S p.block) (u : Value) : Kept S a (w.setCell p u) :=
  ⟨h.os, h.tape, h.output, Nat.le_trans h.size (by simp [World.setCell]), fun k hk hs => (Below.heap_setCell _ _ _ _ (fun e => hs (by rw [e]; exact hp (by omega)))).trans (h.block k hk hs)⟩
theorem Kept.drew {S : Nat → Prop} {a w : World} (h : Kept S a w) : Kept S a w.drew := ⟨h.os, h.tape, h.output, h.size, h.block⟩
theorem Kept.grown {S : Nat → Prop} {a w w' : World} {row : Option Nat} (h : Kept S a w) (hg : w.grownBy w' row) (hr : ∀ k, k < a.heap.size → row = some k → S k) : Kept S a w' :=
  ⟨hg.os.trans h.os, hg.tape.trans h.tape, hg.output.trans h.output, Nat.le_trans h.size hg.size, fun k hk hs => (hg.block k (Nat.lt_of_lt_of_le hk h.size) (fun e => hs (hr k hk e.symm))).trans (h.block k hk hs)⟩
theorem Kept.cell {S : Nat → Prop} {w w' : World} (h : Kept S w w') {p : Addr} (hp : p.block < w.heap.size) (hs : ¬ S p.block) : w'.cell? p = w.cell? p :=
  World.cell?_of_block (w := w) (h.block p.block hp hs)

/-- The slice value '.slice A n c' holds the cells xs ('size' cells an element), in blocks of which R speaks. -/
def Reads (w : World) (R : Nat → Prop) (size : Nat) (A : Option Addr) (n : Nat) (xs : List Value) : Prop :=
  xs.length = n * size ∧ (0 < n → ∃ b off, A = some ⟨b, off, none⟩ ∧ R b ∧ ∀ j u, xs[j]? = some u → w.cell? ⟨b, off + j, none⟩ = some u)

section
variable {w w' : World} {R R' : Nat → Prop} {size n : Nat} {A : Option Addr} {xs : List Value}
theorem Reads.none_ : Reads w R size A 0 [] := ⟨by simp, fun h => absurd h (by omega)⟩
theorem Reads.keep (h : Reads w R size A n xs) (hk : ∀ p : Addr, R p.block → w'.cell? p = w.cell? p) : Reads w' R size A n xs :=
  ⟨h.1, fun hn => by
    obtain ⟨b, off, e, hb, hc⟩ := h.2 hn
    exact ⟨b, off, e, hb, fun j u hu => (hk _ hb).trans (hc j u hu)⟩⟩
theorem Reads.more (h : Reads w R size A n xs) (hB : ∀ b, R b → R' b) : Reads w R' size A n xs :=
  ⟨h.1, fun hn => by
    obtain ⟨b, off, e, hb, hc⟩ := h.2 hn
    exact ⟨b, off, e, hB _ hb, hc⟩⟩
theorem Reads.kept {S : Nat → Prop} (h : Reads w R size A n xs) (hk : Kept S w w') (hs : ∀ b, R b → ¬ S b) : Reads w' R size A n xs :=
  ⟨h.1, fun hn => by
    obtain ⟨b, off, e, hb, hc⟩ := h.2 hn
    exact ⟨b, off, e, hb, fun j u hu => (hk.cell (p := ⟨b, off + j, none⟩) (cell_lt (hc j u hu)) (hs b hb)).trans (hc j u hu)⟩⟩
end

/-! ### blocks known whole -/
def Blk (w : World) (g : Nat) (t : TypeId) (cs : Array Value) : Prop := w.heap[g]? = some (.cells cs t (0, 0))

section
variable {w w' : World} {g : Nat} {t : TypeId} {cs : Array Value}
theorem Blk.lt (h : Blk w g t cs) : g < w.heap.size := by
  rcases Nat.lt_or_ge g w.heap.size with hlt | hge
  · exact hlt
  · unfold Blk at h; rw [Array.getElem?_eq_none hge] at h; cases h
theorem Blk.cell (h : Blk w g t cs) (i : Nat) : w.cell? ⟨g, i, none⟩ = cs[i]? := cell_of_row w g i cs t (0, 0) h
theorem Blk.frozen (h : Blk w g t cs) (i : Nat) : w.frozen? ⟨g, i, none⟩ = false := by
  unfold Blk at h
  simp [World.frozen?, h]
theorem Blk.new (w : World) (t : TypeId) (cs : Array Value) : Blk (w.alloc (.cells cs t)) w.heap.size t cs := heap_alloc_new w _
theorem Blk.drew (h : Blk w g t cs) : Blk w.drew g t cs := h
theorem Blk.alloc (h : Blk w g t cs) (o : Obj) : Blk (w.alloc o) g t cs := (Below.heap_alloc w o g h.lt).trans h
theorem Blk.set_ (h : Blk w g t cs) (i : Nat) (u : Value) : Blk (w.setCell ⟨g, i, none⟩ u) g t (cs.setIfInBounds i u) := by
  unfold Blk at h ⊢
  simp [World.setCell, Array.getElem?_modify, h]
theorem Blk.far (h : Blk w g t cs) {p : Addr} (hp : g ≠ p.block) (u : Value) : Blk (w.setCell p u) g t cs := (Below.heap_setCell w p u g hp).trans h
theorem Blk.below {B : Nat} (h : Blk w g t cs) (hb : Below B w w') (hg : g < B) : Blk w' g t cs := (hb.block g hg).trans h
theorem Blk.kept {S : Nat → Prop} (h : Blk w g t cs) (hb : Kept S w w') (hg : ¬ S g) : Blk w' g t cs := (hb.block g h.lt hg).trans h
theorem Blk.grown {row : Option Nat} (h : Blk w g t cs) (hb : w.grownBy w' row) (hg : some g ≠ row) : Blk w' g t cs := (hb.block g h.lt hg).trans h
theorem Blk.ne_ {g' : Nat} {t' : TypeId} {cs' : Array Value} (h : Blk w g t cs) (h' : Blk w g' t' cs') (hne : t ≠ t') : g ≠ g' := by
  rintro rfl
  unfold Blk at h h'
  rw [h] at h'
  injection h' with h'
  injection h' with _ ht
  exact hne ht
theorem own_blk_ne {base : Nat} {e : TypeId} {size n : Nat} {v : Value} {xs : List Value} (h : w.ownsRow base e size v n xs) (hg : Blk w g t cs) (hne : e ≠ t) : v.ownBlock ≠ some g := by
  rcases h.2 with ⟨rfl, _⟩ | ⟨g', cap, cur, rfl, _, hh, _⟩
  · simp [Value.ownBlock]
  · intro he
    have : g' = g := by simpa [Value.ownBlock] using he
    subst this
    exact Blk.ne_ (t := e) hh hg hne rfl
end

theorem own_kept {w w' : World} {S : Nat → Prop} {base : Nat} {e : TypeId} {size n : Nat} {v : Value} {xs : List Value} (h : w.ownsRow base e size v n xs) (hk : Kept S w w')
    (hs : ∀ g, v.ownBlock = some g → ¬ S g) : w'.ownsRow base e size v n xs := by
  obtain ⟨h1, h2⟩ := h
  refine ⟨h1, ?_⟩
  rcases h2 with h2 | ⟨g, cap, cur, hv, hg, hh, r⟩
  · exact Or.inl h2
  · have hlt : g < w.heap.size := (Array.getElem?_eq_some_iff.1 hh).1
    exact Or.inr ⟨g, cap, cur, hv, hg, by rw [hk.block g hlt (hs g (by rw [hv]; rfl))]; exact hh, r⟩

theorem own_lt {w : World} {base : Nat} {e : TypeId} {size n : Nat} {v : Value} {xs : List Value} (h : w.ownsRow base e size v n xs) {g : Nat} (hg : v.ownBlock = some g) : base ≤ g ∧ g < w.heap.size := by
  rcases h.2 with ⟨rfl, _⟩ | ⟨g', cap, cur, rfl, hb, hh, _⟩
  · simp [Value.ownBlock] at hg
  · have : g' = g := by simpa [Value.ownBlock] using hg
    subst this
    exact ⟨hb, (Array.getElem?_eq_some_iff.1 hh).1⟩

/-! ### lists of cells, element by element -/
theorem flat_len {α : Type} (f : α → List Value) (s : Nat) (hs : ∀ x, (f x).length = s) : ∀ l : List α, (l.flatMap f).length = l.length * s
  | [] => by simp
  | x :: l => by rw [List.flatMap_cons, List.length_append, hs, flat_len f s hs l, List.length_cons, Nat.succ_mul]; omega
theorem flat_get {α : Type} (f : α → List Value) (s : Nat) (hs : ∀ x, (f x).length = s) : ∀ (l : List α) (k j : Nat) (x : α), l[k]? = some x → j < s → (l.flatMap f)[k * s + j]? = (f x)[j]?
  | [], k, j, x, h, _ => by simp at h
  | y :: l, 0, j, x, h, hj => by
    simp at h
    subst h
    rw [List.flatMap_cons, Nat.zero_mul, Nat.zero_add, List.getElem?_append_left (by rw [hs]; exact hj)]
  | y :: l, k + 1, j, x, h, hj => by
    rw [List.flatMap_cons, List.getElem?_append_right (by rw [hs, Nat.succ_mul]; omega), hs]
    have e : (k + 1) * s + j - s = k * s + j := by rw [Nat.succ_mul]; omega
    rw [e]
    exact flat_get f s hs l k j x (by simpa using h) hj

/-- element k of a slice: its cells -/
theorem Reads.elem {α : Type} {w : World} {R : Nat → Prop} {A : Option Addr} {n : Nat} {f : α → List Value} {s : Nat} {l : List α} (h : Reads w R s A n (l.flatMap f)) (hs : ∀ x, (f x).length = s) (h0 : 0 < s) :
    n = l.length ∧ (0 < n → ∃ b off, A = some ⟨b, off, none⟩ ∧ R b ∧ ∀ k x, l[k]? = some x → ∀ j u, (f x)[j]? = some u → w.cell? ⟨b, off + (k * s + j), none⟩ = some u) := by
  have e : n = l.length := by
    have := h.1
    rw [flat_len f s hs] at this
    exact Nat.eq_of_mul_eq_mul_right h0 this.symm
  refine ⟨e, fun hn => ?_⟩
  obtain ⟨b, off, hA, hR, hc⟩ := h.2 hn
  refine ⟨b, off, hA, hR, fun k x hx j u hu => hc _ u ?_⟩
  have hj : j < s := by
    rcases Nat.lt_or_ge j s with hj | hj
    · exact hj
    · rw [List.getElem?_eq_none (by rw [hs]; exact hj)] at hu; cases hu
  rw [flat_get f s hs l k j x hx hj]
  exact hu

/-- nothing of what was there has turned -/
abbrev Fr (w w' : World) : Prop := Kept (fun _ => False) w w'
theorem Fr.below {w w' : World} (h : Fr w w') : Below w.heap.size w w' := Kept.below h (Nat.le_refl _) (fun _ h => h.elim)
theorem Fr.of_below {w w' : World} (h : Below w.heap.size w w') : Fr w w' := Kept.of_below h (fun _ hi hb => absurd hb (by omega))
theorem Fr.cell {w w' : World} (h : Fr w w') {b o : Nat} (hb : b < w.heap.size) : w'.cell? ⟨b, o, none⟩ = w.cell? ⟨b, o, none⟩ := Kept.cell h hb (fun h => h)
theorem Kept.of_fr {S : Nat → Prop} {w w' : World} (h : Fr w w') : Kept S w w' := Kept.mono h (fun _ _ h => h.elim)

def inI (n : Int) : Prop := -9223372036854775808 ≤ n ∧ n ≤ 9223372036854775807

structure PlaceV where
  k : Int
  n : Int
  deriving DecidableEq
def PlaceV.cells (p : PlaceV) : List Value := [.int .i64 p.k, .int .i64 p.n]
def PlaceV.val (p : PlaceV) : Value := .agg #[.int .i64 p.k, .int .i64 p.n]
def PlaceV.ok (p : PlaceV) : Prop := inI p.k ∧ inI p.n

structure Mv where
  to : PlaceV
  fr : PlaceV
  c : Bool
  n : Nat
  deriving DecidableEq
def Mv.cells (m : Mv) : List Value := [.int .i64 m.to.k, .int .i64 m.to.n, .int .i64 m.fr.k, .int .i64 m.fr.n, .bool m.c, .int .u32 m.n]
def Mv.ok (m : Mv) : Prop := m.to.ok ∧ m.fr.ok ∧ m.n < 4294967296
theorem Mv.len (m : Mv) : m.cells.length = 6 := rfl

theorem Reads.mv {w : World} {R : Nat → Prop} {A : Option Addr} {n k : Nat} {l : List Mv} {m : Mv} (h : Reads w R 6 A n (l.flatMap Mv.cells)) (hm : l[k]? = some m) :
    ∃ b off, A = some ⟨b, off, none⟩ ∧ R b ∧ w.cell? ⟨b, off + k * 6, none⟩ = some (.int .i64 m.to.k) ∧ w.cell? ⟨b, off + k * 6 + 1, none⟩ = some (.int .i64 m.to.n) ∧ w.cell? ⟨b, off + k * 6 + 2, none⟩ = some (.int .i64 m.fr.k) ∧
      w.cell? ⟨b, off + k * 6 + 3, none⟩ = some (.int .i64 m.fr.n) ∧ w.cell? ⟨b, off + k * 6 + 4, none⟩ = some (.bool m.c) ∧ w.cell? ⟨b, off + k * 6 + 5, none⟩ = some (.int .u32 m.n) := by
  obtain ⟨e, h2⟩ := h.elem Mv.len (by omega)
  have hk : k < l.length := (List.getElem?_eq_some_iff.1 hm).1
  obtain ⟨b, off, hA, hR, hc⟩ := h2 (by omega)
  exact ⟨b, off, hA, hR, hc k m hm 0 _ rfl, hc k m hm 1 _ rfl, hc k m hm 2 _ rfl, hc k m hm 3 _ rfl, hc k m hm 4 _ rfl, hc k m hm 5 _ rfl⟩

structure Rw where
  d : PlaceV
  a : PlaceV
  b : PlaceV
  before : List Mv
  after : List Mv
  deriving DecidableEq

/-- a row in memory: with the two slices' values -/
structure RwV where
  r : Rw
  vb : Value
  va : Value
def RwV.cells (x : RwV) : List Value := [.int .i64 x.r.d.k, .int .i64 x.r.d.n, .int .i64 x.r.a.k, .int .i64 x.r.a.n, .int .i64 x.r.b.k, .int .i64 x.r.b.n, x.vb, x.va]
theorem RwV.len (m : RwV) : m.cells.length = 8 := rfl

theorem Reads.rw {w : World} {R : Nat → Prop} {A : Option Addr} {n k : Nat} {l : List RwV} {m : RwV} (h : Reads w R 8 A n (l.flatMap RwV.cells)) (hm : l[k]? = some m) :
    ∃ b off, A = some ⟨b, off, none⟩ ∧ R b ∧ w.cell? ⟨b, off + k * 8, none⟩ = some (.int .i64 m.r.d.k) ∧ w.cell? ⟨b, off + k * 8 + 1, none⟩ = some (.int .i64 m.r.d.n) ∧ w.cell? ⟨b, off + k * 8 + 2, none⟩ = some (.int .i64 m.r.a.k) ∧
      w.cell? ⟨b, off + k * 8 + 3, none⟩ = some (.int .i64 m.r.a.n) ∧ w.cell? ⟨b, off + k * 8 + 4, none⟩ = some (.int .i64 m.r.b.k) ∧ w.cell? ⟨b, off + k * 8 + 5, none⟩ = some (.int .i64 m.r.b.n) ∧
      w.cell? ⟨b, off + k * 8 + 6, none⟩ = some m.vb ∧ w.cell? ⟨b, off + k * 8 + 7, none⟩ = some m.va := by
  obtain ⟨e, h2⟩ := h.elem RwV.len (by omega)
  have hk : k < l.length := (List.getElem?_eq_some_iff.1 hm).1
  obtain ⟨b, off, hA, hR, hc⟩ := h2 (by omega)
  exact ⟨b, off, hA, hR, hc k m hm 0 _ rfl, hc k m hm 1 _ rfl, hc k m hm 2 _ rfl, hc k m hm 3 _ rfl, hc k m hm 4 _ rfl, hc k m hm 5 _ rfl, hc k m hm 6 _ rfl, hc k m hm 7 _ rfl⟩

/-- a slice value reads as a list of moves -/
def RdMv (w : World) (R : Nat → Prop) (v : Value) (l : List Mv) : Prop :=
  ∃ A c, v = .slice A l.length c ∧ l.length ≤ maxLen ∧ Reads w R 6 A l.length (l.flatMap Mv.cells) ∧ ∀ m ∈ l, m.ok
def RwV.ok (w : World) (R : Nat → Prop) (x : RwV) : Prop :=
  x.r.d.ok ∧ x.r.a.ok ∧ x.r.b.ok ∧ RdMv w R x.vb x.r.before ∧ RdMv w R x.va x.r.after
/-- a slice value reads as a list of rows -/
def RdRw (w : World) (R : Nat → Prop) (v : Value) (l : List RwV) : Prop :=
  ∃ A c, v = .slice A l.length c ∧ l.length ≤ maxLen ∧ Reads w R 8 A l.length (l.flatMap RwV.cells) ∧ ∀ x ∈ l, x.ok w R

structure Pd where
  slots : Int
  rows : List Rw
  deriving DecidableEq

/-- a value of api.Placed reads as p -/
def RdPd (w : World) (R : Nat → Prop) (v : Value) (p : Pd) : Prop :=
  ∃ vr l, v = .agg #[.int .i64 p.slots, vr] ∧ inI p.slots ∧ RdRw w R vr l ∧ p.rows = l.map (·.r)

structure In where
  op : Int
  d : Int
  a : Int
  b : Int
  c : Int
  n : Nat
  deriving DecidableEq
def In.cells (i : In) : List Value := [.int .i64 i.op, .int .i64 i.d, .int .i64 i.a, .int .i64 i.b, .int .i64 i.c, .int .u32 i.n]
theorem In.len (m : In) : m.cells.length = 6 := rfl
def In.val (i : In) : Value := .agg #[.int .i64 i.op, .int .i64 i.d, .int .i64 i.a, .int .i64 i.b, .int .i64 i.c, .int .u32 i.n]
def In.ok (i : In) : Prop := inI i.op ∧ inI i.d ∧ inI i.a ∧ inI i.b ∧ inI i.c ∧ i.n < 4294967296

def RdIn (w : World) (R : Nat → Prop) (v : Value) (l : List In) : Prop :=
  ∃ A c, v = .slice A l.length c ∧ l.length ≤ maxLen ∧ Reads w R 6 A l.length (l.flatMap In.cells) ∧ ∀ m ∈ l, m.ok
def RdBo (w : World) (R : Nat → Prop) (v : Value) (l : List Bool) : Prop :=
  ∃ A c, v = .slice A l.length c ∧ l.length ≤ maxLen ∧ Reads w R 1 A l.length (l.map Value.bool)
/-- integers of kind k, each in its range -/
def RdInt (k : IntKind) (w : World) (R : Nat → Prop) (v : Value) (l : List Int) : Prop :=
  ∃ A c, v = .slice A l.length c ∧ l.length ≤ maxLen ∧ Reads w R 1 A l.length (l.map (Value.int k)) ∧ ∀ n ∈ l, (Lit.int k n).wf = true

structure Pg where
  wide : List Bool
  code : List In
  deriving DecidableEq
/-- a value of api.Prog reads as p -/
def RdPg (w : World) (R : Nat → Prop) (v : Value) (p : Pg) : Prop :=
  ∃ vw vc, v = .agg #[vw, vc] ∧ RdBo w R vw p.wide ∧ RdIn w R vc p.code

section
variable {w : World} {R R' : Nat → Prop} {v : Value}
theorem RdMv.more {l : List Mv} (h : RdMv w R v l) (hs : ∀ b, R b → R' b) : RdMv w R' v l :=
  let ⟨A, c, e, hl, hr, ho⟩ := h
  ⟨A, c, e, hl, hr.more hs, ho⟩
theorem RwV.ok.more {x : RwV} (h : x.ok w R) (hs : ∀ b, R b → R' b) : x.ok w R' :=
  ⟨h.1, h.2.1, h.2.2.1, h.2.2.2.1.more hs, h.2.2.2.2.more hs⟩
theorem RdRw.more {l : List RwV} (h : RdRw w R v l) (hs : ∀ b, R b → R' b) : RdRw w R' v l :=
  let ⟨A, c, e, hl, hr, ho⟩ := h
  ⟨A, c, e, hl, hr.more hs, fun x hx => (ho x hx).more hs⟩
theorem RdPd.more {p : Pd} (h : RdPd w R v p) (hs : ∀ b, R b → R' b) : RdPd w R' v p :=
  let ⟨vr, l, e, hi, hr, ho⟩ := h
  ⟨vr, l, e, hi, hr.more hs, ho⟩
end

section
variable {w w' : World} {R S : Nat → Prop} {v : Value}
theorem RdMv.kept {l : List Mv} (h : RdMv w R v l) (hk : Kept S w w') (hs : ∀ b, R b → ¬ S b) : RdMv w' R v l :=
  let ⟨A, c, e, hl, hr, ho⟩ := h
  ⟨A, c, e, hl, hr.kept hk hs, ho⟩
theorem RwV.ok.kept {x : RwV} (h : x.ok w R) (hk : Kept S w w') (hs : ∀ b, R b → ¬ S b) : x.ok w' R :=
  ⟨h.1, h.2.1, h.2.2.1, h.2.2.2.1.kept hk hs, h.2.2.2.2.kept hk hs⟩
theorem RdRw.kept {l : List RwV} (h : RdRw w R v l) (hk : Kept S w w') (hs : ∀ b, R b → ¬ S b) : RdRw w' R v l :=
  let ⟨A, c, e, hl, hr, ho⟩ := h
  ⟨A, c, e, hl, hr.kept hk hs, fun x hx => (ho x hx).kept hk hs⟩
theorem RdPd.kept {p : Pd} (h : RdPd w R v p) (hk : Kept S w w') (hs : ∀ b, R b → ¬ S b) : RdPd w' R v p :=
  let ⟨vr, l, e, hi, hr, ho⟩ := h
  ⟨vr, l, e, hi, hr.kept hk hs, ho⟩
theorem RdIn.kept {l : List In} (h : RdIn w R v l) (hk : Kept S w w') (hs : ∀ b, R b → ¬ S b) : RdIn w' R v l :=
  let ⟨A, c, e, hl, hr, ho⟩ := h
  ⟨A, c, e, hl, hr.kept hk hs, ho⟩
theorem RdBo.kept {l : List Bool} (h : RdBo w R v l) (hk : Kept S w w') (hs : ∀ b, R b → ¬ S b) : RdBo w' R v l :=
  let ⟨A, c, e, hl, hr⟩ := h
  ⟨A, c, e, hl, hr.kept hk hs⟩
theorem RdInt.kept {k : IntKind} {l : List Int} (h : RdInt k w R v l) (hk : Kept S w w') (hs : ∀ b, R b → ¬ S b) : RdInt k w' R v l :=
  let ⟨A, c, e, hl, hr, ho⟩ := h
  ⟨A, c, e, hl, hr.kept hk hs, ho⟩
theorem RdPg.kept {p : Pg} (h : RdPg w R v p) (hk : Kept S w w') (hs : ∀ b, R b → ¬ S b) : RdPg w' R v p :=
  let ⟨vw, vc, e, h1, h2⟩ := h
  ⟨vw, vc, e, h1.kept hk hs, h2.kept hk hs⟩
end

end Go.Proofs.Ytodmkjeankbieaa
