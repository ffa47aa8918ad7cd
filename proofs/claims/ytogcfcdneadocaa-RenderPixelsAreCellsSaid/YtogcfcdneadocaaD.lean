/-
  Contracts of bits.Mul and slices.Repeat at a slice of one byte: the slice of that byte, repeated. Condition: the count is from 1 to 1,000,000.
-/
import Derived.Test.YtogcfcdneadocaaC
import Derived.Laws.BitsAllLaws
import Derived.Laws.MathBits
import Derived.Laws.CopyOwn
import Derived.Deep.RegionLaw
import Derived.Laws.Rows
namespace Go.Proofs.Ytogcfcdneadocaa
open Go.RowKit

theorem and_low (N : Int) (h0 : 0 ≤ N) (h1 : N ≤ 1000000) : bits .and .u64 N 4294967295 = N := by
  obtain ⟨n, rfl⟩ := Int.eq_ofNat_of_zero_le h0
  rw [u64_and _ _ h0 (by omega) (by omega) (by omega)]
  have e : (4294967295 : Int).toNat = 2 ^ 32 - 1 := by decide
  rw [e, Int.toNat_natCast, Nat.and_two_pow_sub_one_eq_mod]
  have : n % 2 ^ 32 = n := Nat.mod_eq_of_lt (by omega)
  rw [this]
theorem and_low0 : bits .and .u64 0 4294967295 = 0 := and_low 0 (by omega) (by omega)
theorem and_low1 : bits .and .u64 1 4294967295 = 1 := and_low 1 (by omega) (by omega)
theorem quo_low (N : Int) (h0 : 0 ≤ N) (h1 : N ≤ 1000000) : N / 4294967296 = 0 := by omega

theorem mul_one (N : Int) (w : World) (h0 : 0 ≤ N) (h1 : N ≤ 1000000) :
    Calls Try.prog 25 #[.int .u64 1, .int .u64 N] w fun e w' => e = .returned (.tuple #[.int .u64 0, .int .u64 N]) ∧ w = w' := by
  have e1 := and_low N h0 h1
  have e2 := and_low1
  have e3 := and_low0
  have e4 := quo_low N h0 h1
  go_enter Try.func25, Try.ntmps25
  go_wp2
  go_ret2
  exact ⟨rfl, rfl⟩

/-- k cells of white, then cells of 0, m in all. -/
def fill (k m : Nat) : List Value := List.replicate k (.int .u8 255) ++ List.replicate (m - k) (.int .u8 0)
/-- k cells of white. -/
def whites (k : Nat) : List Value := List.replicate k (.int .u8 255)
theorem fill_length (k m : Nat) (h : k ≤ m) : (fill k m).length = m := by simp [fill]; omega
theorem whites_length (k : Nat) : (whites k).length = k := by simp [whites]
theorem whites_get (k j : Nat) (v : Value) (h : (whites k)[j]? = some v) : v = .int .u8 255 := by
  simp only [whites, List.getElem?_replicate] at h
  split at h
  · exact (Option.some.inj h).symm
  · cases h
theorem whites_one (k : Nat) : ∀ v ∈ whites k, v.oneCell' = true := by
  intro v hv
  obtain rfl := List.eq_of_mem_replicate hv
  rfl
theorem fill_splice (k m j : Nat) (h : k + j ≤ m) : splice (fill k m) k (whites j) = fill (k + j) m := by
  unfold splice fill whites
  rw [List.take_append_of_le_length (by simp), List.take_of_length_le (by simp), List.drop_append, List.drop_of_length_le (by simp)]
  simp only [List.length_replicate, List.nil_append, List.drop_replicate]
  rw [← List.append_assoc, List.replicate_append_replicate]
  congr 2
  omega
theorem fill_get (k m j : Nat) (h : j < k) : (fill k m)[j]? = some (.int .u8 255) := by
  unfold fill
  rw [List.getElem?_append_left (by simpa using h), List.getElem?_replicate]
  simp [h]
theorem fill_start (m : Nat) : (fill 0 m).toArray = madeCells (Value.int .u8 0).cells (m * 1) := by
  apply Array.ext
  · simp [fill, size_madeCells]
  · intro i h1 h2
    simp [fill, madeCells, Value.cells, Nat.mod_one]

theorem info5 : (Try.prog.info? 5).map (fun i => (i.zero, i.size, i.bytes)) = some (some (.int .u8 0), 1, 1) := by kernel_rfl
theorem size5 : (Try.prog.info? 5).map (·.size) = some 1 := by kernel_rfl

theorem make_bytes (m : Nat) (h : m ≤ 1000000) (w : World) :
    (Instr.makeSlice 22 (.int .i64 (m : Int)) (.int .i64 (m : Int))).run Try.prog w = .ok (.slice (some ⟨w.heap.size, 0, none⟩) m m) (w.alloc (.cells (fill 0 m).toArray 5)) := by
  obtain ⟨i0, hi, hz0, hz1, hz2⟩ := info_parts info5
  have hr := run_make (P := Try.prog) w 22 5 i0 (.int .u8 0) Try.underlying22 hi hz0 .i64 .i64 m m (by omega) (by omega) (by rw [hz2]; omega) (by omega)
  simp only [Int.toNat_natCast, hz1] at hr
  rw [fill_start]
  exact hr

/-- What Repeat leaves: m cells of white in a new block. -/
def Whites (w : World) (m : Nat) (e : Ending) (w' : World) : Prop :=
  e = .returned (.slice (some ⟨w.heap.size, 0, none⟩) m m) ∧ w'.heap[w.heap.size]? = some (.cells (fill m m).toArray 5 (0, 0)) ∧ Below w.heap.size w w'

theorem fill_src (W : World) (g k m J : Nat) (hg : W.heap[g]? = some (.cells (fill k m).toArray 5 (0, 0))) (hJ : J ≤ k) : ∀ j v, (whites J)[j]? = some v → W.cell? ((⟨g, 0, none⟩ : Addr).add j) = some v := by
  intro j v hv
  obtain rfl := whites_get _ _ _ hv
  have hj : j < (whites J).length := (List.getElem?_eq_some_iff.1 hv).1
  rw [whites_length] at hj
  have e : (⟨g, 0, none⟩ : Addr).add j = ⟨g, j, none⟩ := by
    unfold Addr.add
    split
    · rename_i h; subst h; rfl
    · simp
  rw [e, cell_of_row W g j _ 5 (0, 0) hg]
  simpa using fill_get k m j (by omega)

theorem repeat_ok (bx cx : Nat) (N : Int) (w : World) (hx : w.cell? ⟨bx, 0, none⟩ = some (.int .u8 255)) (hbx : bx < w.heap.size) (h0 : 1 ≤ N) (h1 : N ≤ 1000000) :
    Calls Try.prog 15 #[.slice (some ⟨bx, 0, none⟩) 1 cx, .int .i64 N] w (Whites w N.toNat) := by
  obtain ⟨m, rfl⟩ := Int.eq_ofNat_of_zero_le (by omega : 0 ≤ N)
  rw [Int.toNat_natCast]
  have hmk := make_bytes m (by omega)
  have HS : ∀ j v, (whites 1)[j]? = some v → (w.alloc (.cells (fill 0 m).toArray 5)).cell? ((⟨bx, 0, none⟩ : Addr).add j) = some v := by
    intro j v hv
    obtain rfl := whites_get _ _ _ hv
    have hj : j < (whites 1).length := (List.getElem?_eq_some_iff.1 hv).1
    rw [whites_length] at hj
    obtain rfl : j = 0 := by omega
    rw [World.cell?_alloc_lt _ _ _ (by exact hbx)]
    exact hx
  have HS' := Lib.hid HS
  clear HS hx
  go_enter Try.func15, Try.ntmps15
  go_wp2_with fail
  refine (mul_one m _ (by omega) (by omega)).mono ?_
  rintro e w' ⟨rfl, rfl⟩
  go_wp2_with (refine wpList_copy_splice rfl (.tmp 31) (.tmp 32) 22 22 rfl 5 Try.underlying22 size5 _ _ m m 1 cx rfl rfl w.heap.size 0 (fill 0 m) 5 (heap_alloc_new w _) (whites 1) (by rw [whites_length]; show 1 = min 1 m; omega) (fun _ => ⟨rfl, _, rfl, HS'.out⟩) (by rw [whites_length, fill_length] <;> omega) (whites_one 1) w.heap.size w ((Below.refl _ _).alloc (Nat.le_refl _) _) (Nat.le_refl _) ?_; intro w1 hg1 hb1)
  rw [whites_length, fill_splice _ _ _ (by omega)] at *
  go_loopw [8] (fun n wr => ∃ k : Nat, 1 ≤ k ∧ k ≤ m ∧ n = .int .i64 k ∧ Hid (wr.heap[w.heap.size]? = some (.cells (fill k m).toArray 5 (0, 0))) ∧ Below w.heap.size w wr) (fun n _ => m - (intOf n).toNat)
  case atStart => exact ⟨1, by omega, by omega, rfl, hg1, hb1⟩
  case round =>
    obtain ⟨k, hk1, hk, rfl, hg, hb⟩ := hrel
    by_cases hlt : k < m
    · obtain ⟨J, hJ⟩ : ∃ J, J = min k (m - k) := ⟨_, rfl⟩
      have hJk : J ≤ k := by omega
      have hJm : k + J ≤ m := by omega
      have hJ1 : 1 ≤ J := by omega
      have HJ := Lib.hid hJ
      clear hJ
      have hsrc := Lib.hid (fill_src wr.drew w.heap.size k m J hg.out hJk)
      have hki : (k : Int) ≤ (m : Int) := by omega
      go_wp2
      go_region_held3 (fun _ => True) (trivial) (first | (refine step_copy_splice rfl (.tmp 41) (.tmp 44) 22 22 rfl 5 Try.underlying22 size5 (if m = k then some ⟨w.heap.size, 0, none⟩ else some ⟨w.heap.size, k, none⟩) (some ⟨w.heap.size, 0, none⟩) (m - k) (m - k) k m rfl rfl w.heap.size k (fill k m) 5 hg.out (whites J) (by rw [whites_length]; exact HJ.out) (fun _ => ⟨if_neg (by omega), _, rfl, hsrc.out⟩) (by rw [whites_length, fill_length] <;> omega) (whites_one J) w.heap.size w hb.drew (Nat.le_refl _) ?_; intro w2 hg2 hb2))
      rw [fill_splice _ _ _ hJm] at hg2
      rw [whites_length, show IntKind.i64.wrap ((k : Int) + (J : Int)) = ((k + J : Nat) : Int) from by rw [IntWalk.i64_in _ (by omega)]; omega]
      go_roundw
      case rel => exact ⟨_, _, _, _, _, _, _, _, _, _, _, _, _, _, ⟨k + J, by omega, hJm, rfl, hg2, hb2⟩, rfl⟩
      case measure => simp [intOf]; omega
    · obtain rfl : k = m := by omega
      go_wp2
      go_ret
      exact ⟨rfl, hg.out, hb⟩
end Go.Proofs.Ytogcfcdneadocaa
