/- The walks of the reference of chapter 11: are numbers bytes, and the string of them. -/
import Derived.Test.YtodmkjeankbieaaCodeRef
import Derived.Laws.BytesArg
namespace Go.Proofs.Ytodmkjeankbieaa
open Go.RowKit Go.Sort

def isByte (n : Int) : Bool := decide (0 ≤ n ∧ n ≤ 255)

theorem reads_int {w : World} {R : Nat → Prop} {A : Option Addr} {n k : Nat} {K : IntKind} {l : List Int} {x : Int} (h : Reads w R 1 A n (l.map (Value.int K))) (hm : l[k]? = some x) :
    ∃ b off, A = some ⟨b, off, none⟩ ∧ R b ∧ w.cell? ⟨b, off + k, none⟩ = some (.int K x) := by
  have hk : k < l.length := (List.getElem?_eq_some_iff.1 hm).1
  have hl := h.1
  rw [List.length_map, Nat.mul_one] at hl
  obtain ⟨b, off, hA, hR, hc⟩ := h.2 (by omega)
  exact ⟨b, off, hA, hR, hc k _ (by rw [List.getElem?_map, hm]; rfl)⟩

theorem all_take_succ (L : List Int) (k : Nat) (x : Int) (h : L[k]? = some x) (h1 : (L.take k).all isByte = true) (h2 : isByte x = true) : (L.take (k + 1)).all isByte = true := by
  rw [List.take_add_one, h]; simp [h1, h2]
theorem all_false (L : List Int) (k : Nat) (x : Int) (h : L[k]? = some x) (h2 : isByte x = false) : L.all isByte = false := by
  rw [List.all_eq_false]
  exact ⟨x, List.mem_of_getElem? h, by simp [h2]⟩

set_option maxRecDepth 100000 in
theorem refSmall_any (R : Nat → Prop) (A : Option Addr) (c : Nat) (L : List Int) (w : World) (hr : Reads w R 1 A L.length (ints L)) (hl : L.length ≤ maxLen) :
    Calls Try.prog 20 #[.slice A L.length c] w fun e w' => e = .returned (.bool (L.all isByte)) ∧ w = w' := by
  unfold maxLen at hl
  go_enter Try.func20, Try.ntmps20
  go_wp2
  go_loop [3] (fun i => ∃ k : Nat, k ≤ L.length ∧ i = .int .i64 k ∧ Hid ((L.take k).all isByte = true)) (fun i => L.length - (intOf i).toNat)
  case atStart => exact ⟨0, by omega, rfl, by unfold Hid; simp⟩
  case round =>
    obtain ⟨k, hk, rfl, hall⟩ := hrel
    by_cases hlt : k < L.length
    · have hm : L[k]? = some L[k] := List.getElem?_eq_getElem hlt
      generalize L[k] = x at *
      obtain ⟨b, off, rfl, _, c0⟩ := reads_int hr hm
      clear hr
      have H0 := Lib.hid hm
      clear hm
      by_cases h1 : x < 0
      · have e : Hid (L.all isByte = false) := all_false L k x H0.out (by simp [isByte]; omega)
        go_wp2
        go_ret
        exact ⟨ret_b e.out.symm, rfl⟩
      · have h1' : decide (x < 0) = false := by simp; omega
        by_cases h2 : 255 < x
        · have e : Hid (L.all isByte = false) := all_false L k x H0.out (by simp [isByte]; omega)
          go_wp2
          go_ret
          exact ⟨ret_b e.out.symm, rfl⟩
        · have e : Hid ((L.take (k + 1)).all isByte = true) := all_take_succ L k x H0.out hall.out (by simp [isByte]; omega)
          go_wp2
          go_round
          case rel => exact ⟨k + 1, by omega, by go_num, e⟩
          case measure => simp [intOf]; omega
    · obtain rfl : k = L.length := by omega
      have e : Hid (L.all isByte = true) := by have := hall.out; rw [List.take_length] at this; exact this
      clear hall
      go_wp2
      go_ret
      exact ⟨ret_b e.out.symm, rfl⟩

theorem slByte : SlTy Try.prog 35 5 1 1 := SlTy.mk' (z := .int .u8 0) Try.underlying35 (by kernel_rfl) rfl (by decide)
def byteVals (l : List Int) : List Value := l.map (Value.int .u8)

theorem conv_bytes {P : Program} {w : World} {R : Nat → Prop} {A : Option Addr} {n c : Nat} {xs : List Int} {src e dst : TypeId} (hs : P.underlying src = some (.slice e)) (he : P.underlying e = some (.int .u8)) (hd : P.underlying dst = some .string)
    (hr : Reads w R 1 A n (byteVals xs)) : (convert src dst (.slice A n c)).run P w = .ok (.string (strOfNums xs)) w := by
  have hl := hr.1
  simp only [byteVals, List.length_map, Nat.mul_one] at hl
  rcases Nat.eq_zero_or_pos n with h0 | h0
  · subst h0
    have hx : xs = [] := List.eq_nil_of_length_eq_zero hl
    subst hx
    rcases A with _ | a
    · exact run_convert_bytes_nil w src e hs he 0 c dst hd
    · rw [run_convert_bytes_string w src dst e _ 0 c hs he hd, run_bytesToString w a 0 c [] (by simp [loadCells, loadCellsFrom])]
      rfl
  · obtain ⟨b, off, rfl, _, hc⟩ := hr.2 h0
    exact run_convert_bytes_arg w src e hs he b off n c xs hl (fun i hi => hc i _ (by simp [byteVals, List.getD]; rw [List.getElem?_eq_getElem (by omega)]; simp)) dst hd


def toByte (L : List Int) : List Int := L.map (· % 256)

theorem set_take (L : List Int) (k : Nat) (x : Int) (h : L[k]? = some x) : (byteVals (toByte (L.take k)) ++ List.replicate (L.length - k) (Value.int .u8 0)).set k (Value.int .u8 (x % 256)) = byteVals (toByte (L.take (k + 1))) ++ List.replicate (L.length - (k + 1)) (Value.int .u8 0) := by
  have hk : k < L.length := (List.getElem?_eq_some_iff.1 h).1
  have hl : (byteVals (toByte (L.take k))).length = k := by simp [byteVals, toByte]; omega
  have hr : List.replicate (L.length - k) (Value.int .u8 0) = .int .u8 0 :: List.replicate (L.length - (k + 1)) (.int .u8 0) := by
    rw [show L.length - k = (L.length - (k + 1)) + 1 by omega, List.replicate_succ]
  rw [hr, List.set_append_right _ _ (by omega), hl, Nat.sub_self, List.set_cons_zero, List.take_add_one, h]
  simp [byteVals, toByte]

theorem made_zero (n : Nat) : (madeCells (Value.int .u8 0).cells (n * 1)).toList = List.replicate n (.int .u8 0) := by
  simp [madeCells, Value.cells]
  apply List.ext_getElem
  · simp
  · intro i h1 h2
    simp [Nat.mod_one]

structure ByInv (w wr : World) (L : List Int) (g k : Nat) : Prop where
  own : wr.ownsRow w.heap.size 5 1 (.slice (some ⟨g, 0, none⟩) L.length L.length) L.length (byteVals (toByte (L.take k)) ++ List.replicate (L.length - k) (.int .u8 0))
  fr : Fr w wr

set_option maxHeartbeats 1000000 in
set_option maxRecDepth 100000 in
theorem refBytes_any (R : Nat → Prop) (A : Option Addr) (c : Nat) (L : List Int) (w : World) (hr : Reads w R 1 A L.length (ints L)) (hl : L.length ≤ 140737488355328) :
    Calls Try.prog 21 #[.slice A L.length c] w fun e w' => e = .returned (.string (strOfNums (toByte L))) ∧ Fr w w' := by
  obtain ⟨i0, z0, hi0, hz0, hz1, hz2, hz3⟩ := slByte.ex
  have hz : i0.zero = some (.int .u8 0) := by
    have h1 : (Try.prog.info? 5).map (fun i => i.zero) = some (some (.int .u8 0)) := by kernel_rfl
    rw [hi0] at h1
    simpa using h1
  go_enter Try.func21, Try.ntmps21
  go_wp2_with (first
    | (at_make
       refine wpList_make_full _ rfl (.tmp 6) (.tmp 6) _ rfl w.heap.size 5 i0 (.int .u8 0) 1 Try.underlying35 hi0 hz hz1 .i64 .i64 _ _ L.length rfl rfl rfl rfl ?_ ?_ ?_ ?_
       · rw [hz2]; omega
       · unfold maxLen; omega
       · omega
       intro w1 hown1 hk1))
  go_loopw [4] (fun i wr => ∃ k : Nat, k ≤ L.length ∧ i = .int .i64 k ∧ ByInv w wr L w.heap.size k) (fun i _ => L.length - (intOf i).toNat)
  case atStart =>
    refine ⟨0, by omega, rfl, ?_, (Kept.refl _ _).grown hk1 (fun _ _ h => by cases h)⟩
    rw [made_zero] at hown1
    simpa [byteVals, toByte] using hown1
  case round =>
    obtain ⟨k, hk, rfl, hinv⟩ := hrel
    obtain ⟨hown, hfr⟩ := hinv
    by_cases hlt : k < L.length
    · have hm : L[k]? = some L[k] := List.getElem?_eq_getElem hlt
      generalize L[k] = x at *
      obtain ⟨b, off, rfl, _, c0⟩ := reads_int (hr.kept hfr (fun _ _ h => h)) hm
      have hst := (hown.stored k (.int .u8 (x % 256))).1
      rw [set_take L k x hm] at hst
      have H1 := Lib.hid hst
      obtain ⟨u, hu⟩ : ∃ u, wr.cell? ⟨w.heap.size, k, none⟩ = some u := by
        rw [hown.cellAt k (by omega)]
        have hl := hown.1
        exact ⟨_, List.getElem?_eq_getElem (by omega)⟩
      have hfz := hown.frozenAt k
      have hz5 := hfr.size
      clear hst hm hr hown1 hk1 hown
      go_wp2
      go_roundw
      case rel => exact ⟨k + 1, by omega, by go_num, H1.out, hfr.setCell (fun h => by simp at h) _⟩
      case measure => simp [intOf]; omega
    · obtain rfl : k = L.length := by omega
      rw [Nat.sub_self, List.take_length, List.replicate_zero, List.append_nil] at hown
      obtain ⟨A2, c2, hA, _, hr2⟩ := own_reads hown
      have hcv := fun w2 => conv_bytes (P := Try.prog) (w := w2) (R := fun b => w.heap.size ≤ b ∧ (Value.slice (some ⟨w.heap.size, 0, none⟩) L.length L.length).ownBlock = some b) (n := L.length) (c := L.length) (xs := toByte L) (src := 35) (e := 5) (dst := 9) (A := A2) Try.underlying35 Try.underlying5 Try.underlying9
      simp only [Value.slice.injEq] at hA
      obtain ⟨rfl, _, rfl⟩ := hA
      have hcv1 := hcv wr hr2
      clear hcv hr2 hown hown1 hk1 hr
      go_wp2
      go_ret
      exact ⟨rfl, hfr⟩
end Go.Proofs.Ytodmkjeankbieaa
