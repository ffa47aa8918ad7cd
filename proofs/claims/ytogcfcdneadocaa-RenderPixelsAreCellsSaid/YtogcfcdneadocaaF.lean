/-
  The law's own closed example, drawn(), answers true. No condition.
-/
import Derived.Test.YtogcfcdneadocaaE
namespace Go.Proofs.Ytogcfcdneadocaa
open Go.RowKit

theorem validateImage_zero (w : World) :
    Calls Try.prog 11 #[.agg #[.int .i64 0, .int .i64 0, .slice none 0 0]] w fun e w' => e = .returned (.agg #[.int .i64 4, .int .i64 (-1)]) ∧ Below w.heap.size w w' := by
  go_enter Try.func11, Try.ntmps11
  go_wp2_with (go_at_call 14; refine (rfault_any _ _ _).mono ?_; rintro e w' ⟨rfl, rfl⟩)
  exact bodyPost_ret (v := .agg #[.int .i64 4, .int .i64 (-1)]) (by simp [results, Try.results11, go_sem]) rfl ⟨rfl, (((Below.refl _ _).alloc (Nat.le_refl _) _).alloc (by simp) _).alloc (by simp; omega) _⟩

/-- The cells of the example: all white. -/
def zeros (m : Nat) : List Int := List.replicate m 0
theorem zeros_get (m k : Nat) : (zeros m).getD k 0 = 0 := by
  unfold zeros
  by_cases h : k < m <;> simp [List.getD, h]
theorem fill_zero (m k : Nat) (h : k < m) : (fill 0 m)[k]? = some (.int .u8 0) := by
  simp [fill, h]
theorem pix_zero (zs : List Int) (L : Int) (s x0 y0 wd j i : Nat) (h : 0 < y0) : pix zs L s x0 y0 wd j i 0 = 255 := by
  unfold pix
  rw [Nat.zero_div, if_neg (by omega)]
theorem zeros_row (w : World) (m : Nat) (hm : m ≤ 1000000) : Row (w.alloc (.cells (fill 0 m).toArray 5)) (w.alloc (.cells (fill 0 m).toArray 5)).heap.size (some ⟨w.heap.size, 0, none⟩) m m (zeros m) := by
  refine ⟨by simp [zeros], Nat.le_refl _, by unfold maxLen; omega, ?_, fun _ => ⟨_, _, rfl, by simp, fun k hk => ?_⟩⟩
  · intro z hz
    have := List.eq_of_mem_replicate hz
    omega
  · rw [zeros_get, Nat.zero_add, cell_of_block (heap_new _ _ _ rfl)]
    simpa using fill_zero m k hk

theorem drawn_true (w : World) : Calls Try.prog 5 #[] w fun e w' => e = .returned (.bool true) ∧ Below w.heap.size w w' := by
  have hmk : ∀ w : World, (Instr.makeSlice 22 (.int .i64 4930) (.int .i64 4930)).run Try.prog w = .ok (.slice (some ⟨w.heap.size, 0, none⟩) 4930 4930) (w.alloc (.cells (fill 0 4930).toArray 5)) := fun w => make_bytes 4930 (by omega) w
  go_enter Try.func5, Try.ntmps5
  go_wp2_with fail
  refine (draw_ok _ _ _ (zeros 4930) _ _ _ _ _ _ (zeros_row w 4930 (by omega)) (.inl ⟨rfl, rfl⟩) (by decide) (fun k _ => by rw [zeros_get]; decide) (by decide) (by decide) (by decide) (by decide) (by decide) (by decide)).mono ?_
  rintro e w1 ⟨B, N, Wd, Ht, s, x0, y0, wd, j, rfl, hW, hH, hN, hs, hx, hy, hw, hj, hB, hP, hb⟩
  obtain rfl : Wd = 178 := by omega
  obtain rfl : Ht = 259 := by omega
  have hN' : (N : Int) = 46102 := by rw [hN]; decide
  have hNb : ((N : Int) == 46102) = true := by simp; omega
  have hN0 : 0 < N := by omega
  have hNi : (0 : Int) < (N : Int) := by omega
  have c0 := (cell_of_block hP 0).trans ((List.getElem?_toArray).trans (px_get _ _ _ _ _ _ _ _ _ 0 hN0))
  rw [pix_zero _ _ _ _ _ _ _ _ (by omega)] at c0
  have hs0 : B < w1.heap.size := size_of_block hP
  have hs1 : B < w1.heap.size + 1 := by omega
  have HB := Lib.hid hb
  clear hb hP hN hN' hs hx hy hw hj hW hH
  go_wp2_with (first | (go_at_call 11; refine (validateImage_zero _).mono ?_; rintro e w2 ⟨rfl, hb2⟩; have HB2 := Lib.hid hb2; clear hb2) | (go_at_call 10; refine (at_any _ _ _).mono ?_; rintro e w' ⟨rfl, rfl⟩))
  go_ret
  exact ⟨rfl, ((((((Below.refl _ _).alloc (Nat.le_refl _) _).trans (HB.out.mono (by simp))).alloc (by have := HB.out.size; simp at this; omega) _).alloc (by have := HB.out.size; simp at this ⊢; omega) _).trans (HB2.out.mono (by have := HB.out.size; simp at this ⊢; omega))).alloc (by have := HB.out.size; have := HB2.out.size; simp at *; omega) _⟩
end Go.Proofs.Ytogcfcdneadocaa
