/-
  The plain law of one pixel: what Draw wrote at (x, y) is the shade of the cell that lies there, or white in the margins. No program in sight. Condition: the ranges that DrawFault lets by, and a pixel of the image.
-/
import Derived.Test.YtogcfcdneadocaaF
namespace Go.Proofs.Ytogcfcdneadocaa

/-- The place of the pixel (x, y) in the list of pixels. -/
theorem at_facts (Wd Ht x y : Int) (N : Nat) (hN : N = (Wd * Ht).toNat) (hx0 : 0 ≤ x) (hx1 : x ≤ Wd - 1) (hy0 : 0 ≤ y) (hy1 : y ≤ Ht - 1) (hW0 : 1 ≤ Wd) (hW1 : Wd ≤ 428) (hH0 : 1 ≤ Ht) (hH1 : Ht ≤ 590) :
    0 ≤ y * Wd ∧ y * Wd ≤ 252520 ∧ 0 ≤ y * Wd + x ∧ y * Wd + x < N ∧ (y * Wd + x).toNat < N ∧ (N : Int) = Wd * Ht ∧ Wd * Ht ≤ 1000000 ∧ 1 ≤ Wd * Ht := by
  obtain ⟨h1, h2⟩ := mul_bounds Wd Ht hW0 hW1 hH0 hH1
  have h3 : 0 ≤ y * Wd := Int.mul_nonneg hy0 (by omega)
  have h4 : y * Wd ≤ 590 * 428 := Int.mul_le_mul (by omega) hW1 (by omega) (by omega)
  have h5 : (y + 1) * Wd ≤ Ht * Wd := Int.mul_le_mul_of_nonneg_right (by omega) (by omega)
  rw [Int.add_mul, Int.one_mul, Int.mul_comm Ht Wd] at h5
  generalize y * Wd = p at *
  generalize Wd * Ht = q at *
  omega

/-- The pixel (x, y) of the drawing, its place taken apart. -/
theorem pix_at (zs : List Int) (L R S X Y Wd x y : Int) (s x0 y0 wd j : Nat) (hS : S = s) (hX : X = x0) (hY : Y = y0) (hw : Wd = wd) (hj : (j : Int) = R * S) (hx0 : 0 ≤ x) (hx1 : x ≤ Wd - 1) (hy0 : 0 ≤ y) :
    pix zs L s x0 y0 wd j 0 (y * Wd + x).toNat =
      if X ≤ x ∧ x ≤ X + 58 * S - 1 ∧ Y ≤ y ∧ y ≤ Y + R * S - 1 then shadeOf (zs.getD ((y - Y).toNat / s * 58 + (x - X).toNat / s) 0) L else 255 := by
  subst hS hX hY hw
  obtain ⟨a, rfl⟩ := Int.eq_ofNat_of_zero_le hx0
  obtain ⟨b, rfl⟩ := Int.eq_ofNat_of_zero_le hy0
  have hwd : 0 < wd := by omega
  have e0 : ((b : Int) * wd + a).toNat = b * wd + a := by rw [← Int.natCast_mul, ← Int.natCast_add, Int.toNat_natCast]
  have e1 : (b * wd + a) / wd = b := by
    rw [Nat.add_comm, Nat.add_mul_div_right _ _ hwd, Nat.div_eq_of_lt (by omega)]
    omega
  have e2 : (b * wd + a) % wd = a := by rw [Nat.add_comm, Nat.add_mul_mod_self_right, Nat.mod_eq_of_lt (by omega)]
  have e3 : ((b : Int) - y0).toNat = b - y0 := by omega
  have e4 : ((a : Int) - x0).toNat = a - x0 := by omega
  rw [e0, e3, e4, ← hj]
  unfold pix
  rw [e1, e2]
  by_cases h : y0 ≤ b ∧ x0 ≤ a ∧ a - x0 < 58 * s ∧ (b - y0 < j ∨ (b - y0 = j ∧ a - x0 < 0))
  · rw [if_pos h, if_pos (by omega)]
  · rw [if_neg h, if_neg (by omega)]

/-- The cell of the pixel (x, y). -/
theorem cell_facts (R S X Y x y : Int) (s n : Nat) (hS : S = s) (hs0 : 3 ≤ S) (hR0 : 0 ≤ R) (hR1 : R ≤ 85) (hx0 : X ≤ x) (hx1 : x ≤ X + 58 * S - 1) (hy0 : Y ≤ y) (hy1 : y ≤ Y + R * S - 1) (hn : (n : Int) = R * 58) :
    0 ≤ (y - Y) / S ∧ (y - Y) / S ≤ 84 ∧ 0 ≤ (x - X) / S ∧ (x - X) / S ≤ 57 ∧ 58 * ((y - Y) / S) + (x - X) / S < n ∧ (58 * ((y - Y) / S) + (x - X) / S).toNat = (y - Y).toNat / s * 58 + (x - X).toNat / s ∧
      (y - Y).toNat / s * 58 + (x - X).toNat / s < n := by
  obtain ⟨j, hj⟩ := Int.eq_ofNat_of_zero_le (a := y - Y) (by omega)
  obtain ⟨i, hi⟩ := Int.eq_ofNat_of_zero_le (a := x - X) (by omega)
  rw [hj, hi, Int.toNat_natCast, Int.toNat_natCast]
  obtain ⟨h1, h2, h3, h4, h5, h6, h7⟩ := idx_facts R S s j i n hS hs0 hR0 hR1 (by omega) (by omega) hn
  refine ⟨h1, h2, h3, h4, ?_, ?_, h7⟩
  · omega
  · rw [← h6]
    congr 1
    omega

end Go.Proofs.Ytogcfcdneadocaa
