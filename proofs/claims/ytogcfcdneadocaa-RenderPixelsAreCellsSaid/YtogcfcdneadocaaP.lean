/-
  The plain law of the pixels of a drawing, with no program in sight: after j whole rows and i pixels of the next row of the code area have been drawn, each pixel is known. No condition but the ranges that each lemma names.
-/
import Derived.Test.YtogcfcdneadocaaD
namespace Go.Proofs.Ytogcfcdneadocaa

/-- Pixel number k of an image of width wd after j rows and i pixels have been drawn: s: scale, x0 and y0: margins. -/
def pix (zs : List Int) (L : Int) (s x0 y0 wd j i k : Nat) : Int :=
  if y0 ≤ k / wd ∧ x0 ≤ k % wd ∧ k % wd - x0 < 58 * s ∧ (k / wd - y0 < j ∨ (k / wd - y0 = j ∧ k % wd - x0 < i)) then
    shadeOf (zs.getD ((k / wd - y0) / s * 58 + (k % wd - x0) / s) 0) L
  else 255

/-- All pixels. -/
def px (zs : List Int) (L : Int) (s x0 y0 wd N j i : Nat) : List Value := (List.range N).map fun k => .int .u8 (pix zs L s x0 y0 wd j i k)

theorem px_length (zs : List Int) (L : Int) (s x0 y0 wd N j i : Nat) : (px zs L s x0 y0 wd N j i).length = N := by simp [px]

theorem px_get (zs : List Int) (L : Int) (s x0 y0 wd N j i k : Nat) (h : k < N) : (px zs L s x0 y0 wd N j i)[k]? = some (.int .u8 (pix zs L s x0 y0 wd j i k)) := by
  simp [px, h]

theorem pix_start (zs : List Int) (L : Int) (s x0 y0 wd k : Nat) : pix zs L s x0 y0 wd 0 0 k = 255 := by
  unfold pix
  rw [if_neg (by omega)]

theorem px_start (zs : List Int) (L : Int) (s x0 y0 wd N : Nat) : px zs L s x0 y0 wd N 0 0 = fill N N := by
  apply List.ext_getElem
  · rw [px_length, fill_length _ _ (Nat.le_refl _)]
  · intro k h1 h2
    rw [px_length] at h1
    have a := px_get zs L s x0 y0 wd N 0 0 k h1
    have b := fill_get N N k h1
    rw [pix_start] at a
    rw [List.getElem?_eq_getElem (by rw [px_length]; exact h1)] at a
    rw [List.getElem?_eq_getElem h2] at b
    exact (Option.some.inj a).trans (Option.some.inj b).symm

/-- The row is at its end. -/
theorem pix_row (zs : List Int) (L : Int) (s x0 y0 wd j k : Nat) : pix zs L s x0 y0 wd j (58 * s) k = pix zs L s x0 y0 wd (j + 1) 0 k := by
  unfold pix
  by_cases h : y0 ≤ k / wd ∧ x0 ≤ k % wd ∧ k % wd - x0 < 58 * s ∧ (k / wd - y0 < j ∨ (k / wd - y0 = j ∧ k % wd - x0 < 58 * s))
  · rw [if_pos h, if_pos (by omega)]
  · rw [if_neg h, if_neg (by omega)]

theorem px_row (zs : List Int) (L : Int) (s x0 y0 wd N j : Nat) : px zs L s x0 y0 wd N j (58 * s) = px zs L s x0 y0 wd N (j + 1) 0 := by
  unfold px
  congr 1
  funext k
  rw [pix_row]

/-- One pixel more. -/
theorem pix_step (zs : List Int) (L : Int) (s x0 y0 wd j i k : Nat) (hi : i < 58 * s) (hw : 58 * s + x0 ≤ wd) :
    pix zs L s x0 y0 wd j (i + 1) k = if k = (j + y0) * wd + (i + x0) then shadeOf (zs.getD (j / s * 58 + i / s) 0) L else pix zs L s x0 y0 wd j i k := by
  have hwd : 0 < wd := by omega
  by_cases hk : k = (j + y0) * wd + (i + x0)
  · have e1 : k / wd = j + y0 := by
      rw [hk, Nat.add_comm, Nat.add_mul_div_right _ _ hwd, Nat.div_eq_of_lt (by omega)]
      omega
    have e2 : k % wd = i + x0 := by
      rw [hk, Nat.add_comm, Nat.add_mul_mod_self_right, Nat.mod_eq_of_lt (by omega)]
    rw [if_pos hk]
    unfold pix
    rw [e1, e2, if_pos (by omega)]
    have e3 : j + y0 - y0 = j := by omega
    have e4 : i + x0 - x0 = i := by omega
    rw [e3, e4]
  · rw [if_neg hk]
    have hd := Nat.div_add_mod k wd
    have hne : ¬ (k / wd = j + y0 ∧ k % wd = i + x0) := by
      rintro ⟨a, b⟩
      rw [a, b, Nat.mul_comm] at hd
      exact hk hd.symm
    clear hd hk
    unfold pix
    generalize k / wd = r at *
    generalize k % wd = q at *
    by_cases h : y0 ≤ r ∧ x0 ≤ q ∧ q - x0 < 58 * s ∧ (r - y0 < j ∨ (r - y0 = j ∧ q - x0 < i))
    · rw [if_pos h, if_pos (by omega)]
    · rw [if_neg h, if_neg (by omega)]

theorem px_step (zs : List Int) (L : Int) (s x0 y0 wd N j i : Nat) (hi : i < 58 * s) (hw : 58 * s + x0 ≤ wd) :
    px zs L s x0 y0 wd N j (i + 1) = (px zs L s x0 y0 wd N j i).set ((j + y0) * wd + (i + x0)) (.int .u8 (shadeOf (zs.getD (j / s * 58 + i / s) 0) L)) := by
  apply List.ext_getElem?
  intro k
  by_cases hk : k < N
  · rw [px_get _ _ _ _ _ _ _ _ _ _ hk, pix_step _ _ _ _ _ _ _ _ _ hi hw, List.getElem?_set]
    by_cases e : k = (j + y0) * wd + (i + x0)
    · rw [if_pos e, if_pos e.symm, if_pos (by rw [px_length]; omega)]
    · rw [if_neg e, if_neg (fun h => e h.symm), px_get _ _ _ _ _ _ _ _ _ _ hk]
  · rw [List.getElem?_eq_none (by rw [px_length]; omega), List.getElem?_eq_none (by rw [List.length_set, px_length]; omega)]

/-- The cell of a pixel lies on the page. -/
theorem idx_facts (R S : Int) (s j i n : Nat) (hS : S = s) (hs0 : 3 ≤ S) (hR0 : 0 ≤ R) (hR1 : R ≤ 85) (hj : (j : Int) < R * S) (hi : (i : Int) < 58 * S) (hn : (n : Int) = R * 58) :
    0 ≤ (j : Int) / S ∧ (j : Int) / S ≤ 84 ∧ 0 ≤ (i : Int) / S ∧ (i : Int) / S ≤ 57 ∧ (j : Int) / S * 58 + (i : Int) / S < n ∧ ((j : Int) / S * 58 + (i : Int) / S).toNat = j / s * 58 + i / s ∧ j / s * 58 + i / s < n := by
  obtain ⟨r, rfl⟩ := Int.eq_ofNat_of_zero_le hR0
  subst hS
  have e1 : j < r * s := by have : (j : Int) < ((r * s : Nat) : Int) := by rw [Int.natCast_mul]; exact hj
                            omega
  have e2 : i < 58 * s := by omega
  have d1 : j / s < r := Nat.div_lt_of_lt_mul (by rw [Nat.mul_comm]; exact e1)
  have d2 : i / s < 58 := Nat.div_lt_of_lt_mul (by rw [Nat.mul_comm]; exact e2)
  rw [← Int.natCast_ediv, ← Int.natCast_ediv]
  generalize j / s = a at *
  generalize i / s = b at *
  omega

theorem shadeOf_range (z L R : Int) (h : LvOk L R) (h0 : 0 ≤ z) (h1 : z < L) : 0 ≤ shadeOf z L ∧ shadeOf z L ≤ 255 := by
  unfold shadeOf
  rcases h with ⟨rfl, _⟩ | ⟨rfl, _⟩ <;> omega

/-- The place of a pixel. -/
theorem place_facts (R S X Y Wd Ht : Int) (s x0 y0 wd N j i : Nat) (hS : S = s) (hX : X = x0) (hY : Y = y0) (hw : Wd = wd) (hW : 58 * S + 2 * X = Wd) (hH : R * S + 2 * Y = Ht) (hN : (Wd * Ht).toNat = N)
    (hX0 : 2 ≤ X) (hY0 : 2 ≤ Y) (hj : (j : Int) < R * S) (hi : (i : Int) < 58 * S) (hW1 : Wd ≤ 428) (hH1 : Ht ≤ 590) :
    0 ≤ ((j : Int) + Y) * Wd ∧ ((j : Int) + Y) * Wd ≤ 252520 ∧ ((j : Int) + Y) * Wd + i + X < N ∧ (((j : Int) + Y) * Wd + i + X).toNat = (j + y0) * wd + (i + x0) ∧ (j + y0) * wd + (i + x0) < N ∧ 58 * s + x0 ≤ wd := by
  subst hS hX hY hw
  have h1 : ((j : Int) + y0) * wd = (((j + y0) * wd : Nat) : Int) := by rw [Int.natCast_mul, Int.natCast_add]
  obtain ⟨h, hh⟩ : ∃ h : Nat, Ht = h := ⟨Ht.toNat, by omega⟩
  subst hh
  have hN' : wd * h = N := by rw [← hN, ← Int.natCast_mul, Int.toNat_natCast]
  have h2 : j + y0 + 1 ≤ h := by omega
  have h3 : (j + y0 + 1) * wd ≤ h * wd := Nat.mul_le_mul_right _ h2
  have h4 : h * wd ≤ 590 * 428 := Nat.mul_le_mul (by omega) (by omega)
  rw [h1]
  rw [Nat.mul_comm wd h] at hN'
  rw [Nat.add_mul (j + y0) 1 wd, Nat.one_mul] at h3
  generalize (j + y0) * wd = q at *
  generalize h * wd = p at *
  omega
end Go.Proofs.Ytogcfcdneadocaa
