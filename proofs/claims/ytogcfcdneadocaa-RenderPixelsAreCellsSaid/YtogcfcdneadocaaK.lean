/-
  The walk of the law RenderPixelsAreCells at a pixel of the image: it answers true, and writes nothing that was there. Condition: the cells read as a list (Row).
-/
import Derived.Test.YtogcfcdneadocaaH
namespace Go.Proofs.Ytogcfcdneadocaa
open Go.RowKit

set_option maxHeartbeats 2000000 in
set_option maxRecDepth 100000 in
theorem law_white_x (A : Option Addr) (n c : Nat) (zs : List Int) (L R S X Y x y : Int) (w : World) (hr : Row w w.heap.size A n c zs) (hL : LvOk L R) (hn : (n : Int) = R * 58) (hall : ∀ k, k < n → zs.getD k 0 < L)
    (hS0 : 3 ≤ S) (hS1 : S ≤ 6) (hX0 : 2 ≤ X) (hX1 : X ≤ 40) (hY0 : 2 ≤ Y) (hY1 : Y ≤ 40) (hx0 : 0 ≤ x) (hx1 : x ≤ 58 * S + 2 * X - 1) (hy0 : 0 ≤ y) (hy1 : y ≤ R * S + 2 * Y - 1) (hxo : x < X ∨ X + 58 * S - 1 < x) :
    Calls Try.prog 3 #[.agg #[.int .i64 L, .int .i64 R, .int .i64 58, .slice A n c], .int .i64 S, .int .i64 X, .int .i64 Y, .int .i64 x, .int .i64 y] w fun e w' => e = .returned (.bool true) ∧ Below w.heap.size w w' := by
  have hRS0 : 0 ≤ R * S := (hL.mul_S hS0 hS1).1
  have hRS1 : R * S ≤ 510 := (hL.mul_S hS0 hS1).2
  have hR0 : 0 < R := by rcases hL with ⟨_, h⟩ | ⟨_, h⟩ <;> omega
  have hR1 : R ≤ 85 := by rcases hL with ⟨_, h⟩ | ⟨_, h⟩ <;> omega
  obtain ⟨hm0, hm1⟩ := mul_bounds (58 * S + 2 * X) (R * S + 2 * Y) (by omega) (by omega) (by omega) (by omega)
  have HL := Lib.hid hL
  have HN := Lib.hid hn
  have HA := Lib.hid hall
  have HR := Lib.hid hr
  clear hall hr hL hn
  have hcode := code_of
  go_enter Try.func3, Try.ntmps3
  go_wp2_with fail
  refine (drawFault_ok A n c zs L R S X Y _ ((HR.out.alloc (Nat.le_refl _) _).more (by simp)) HL.out HN.out HA.out hS0 hS1 hX0 hX1 hY0 hY1).mono ?_
  rintro e w1 ⟨rfl, hb⟩
  obtain ⟨hc, hf⟩ := bcell hb
  have hz : w.heap.size < w1.heap.size := by have := hb.size; simp at this; omega
  go_wp2_with fail
  refine (draw_ok A n c zs L R S X Y _ (((HR.out.alloc (Nat.le_refl _) _).below (hb.mono (by simp))).more (by omega)) HL.out HN.out HA.out hS0 hS1 hX0 hX1 hY0 hY1).mono ?_
  rintro e w2 ⟨B, N, Wd, Ht, s, x0, y0, wd, j, rfl, rfl, rfl, hN, hs, hx, hy, hw, hj, hB, hP, hb2⟩
  have hpage : w2.heap[w.heap.size]? = some (.cells #[.int .i64 L, .int .i64 R, .int .i64 58, .slice A n c] 24 (0, 0)) :=
    (hb2.block _ hz).trans ((hb.block _ (by simp)).trans (heap_new _ _ _ rfl))
  have hbel : Below w.heap.size w w2 := (((Below.refl _ _).alloc (Nat.le_refl _) _).trans (hb.mono (by simp))).trans (hb2.mono (by omega))
  have HBel := Lib.hid hbel
  have p0 := cell_of_block hpage 0
  have p1 := cell_of_block hpage 1
  have p3 := cell_of_block hpage 3
  simp at p0 p1 p3
  have hz2 : w.heap.size < w2.heap.size := size_of_block hpage
  have hz3 : w.heap.size < w2.heap.size + 1 := by omega
  have hz4 : w.heap.size < w2.heap.size + 1 + 1 := by omega
  have hNeq : (N : Int) = (58 * S + 2 * X) * (R * S + 2 * Y) := by rw [hN]; omega
  have hNb : ((N : Int) != (58 * S + 2 * X) * (R * S + 2 * Y)) = false := by rw [hNeq]; simp
  have HNN := Lib.hid hN
  clear hc hf hz hb hb2 hbel hpage hNeq hN
  obtain ⟨ha0, ha1, ha2, ha3, ha4, _, _, _⟩ := at_facts (58 * S + 2 * X) (R * S + 2 * Y) x y N HNN.out hx0 hx1 hy0 hy1 (by omega) (by omega) (by omega) (by omega)
  have hc := (cell_of_block hP (y * (58 * S + 2 * X) + x).toNat).trans ((List.getElem?_toArray).trans (px_get zs L s x0 y0 wd N j 0 _ ha4))
  rw [pix_at zs L R S X Y (58 * S + 2 * X) x y s x0 y0 wd j hs hx hy hw hj hx0 hx1 hy0, if_neg (by omega)] at hc
  have hq2 : B < w2.heap.size := size_of_block hP
  have hq3 : B < w2.heap.size + 1 := by omega
  have hq4 : B < w2.heap.size + 1 + 1 := by omega
  clear hs hx hy hw hj hB hP
  go_wp2_with fail
  refine (in_yes _ _ _ _ hx0 hx1).mono ?_
  rintro e w' ⟨rfl, rfl⟩
  go_wp2_with fail
  refine (in_yes _ _ _ _ hy0 hy1).mono ?_
  rintro e w' ⟨rfl, rfl⟩
  go_wp2_with fail
  refine (in_no _ _ _ _ hxo).mono ?_
  rintro e w' ⟨rfl, rfl⟩
  go_wp2_with (go_at_call 5; refine (drawn_true _).mono ?_; rintro e w3 ⟨rfl, hb3⟩; have HB3 := Lib.hid hb3; clear hb3)
  go_ret
  exact ⟨rfl, ((HBel.out.alloc HBel.out.size _).alloc (by have := HBel.out.size; simp; omega) _).trans (HB3.out.mono (by have := HBel.out.size; simp; omega))⟩

set_option maxHeartbeats 2000000 in
set_option maxRecDepth 100000 in
theorem law_white_y (A : Option Addr) (n c : Nat) (zs : List Int) (L R S X Y x y : Int) (w : World) (hr : Row w w.heap.size A n c zs) (hL : LvOk L R) (hn : (n : Int) = R * 58) (hall : ∀ k, k < n → zs.getD k 0 < L)
    (hS0 : 3 ≤ S) (hS1 : S ≤ 6) (hX0 : 2 ≤ X) (hX1 : X ≤ 40) (hY0 : 2 ≤ Y) (hY1 : Y ≤ 40) (hx0 : 0 ≤ x) (hx1 : x ≤ 58 * S + 2 * X - 1) (hy0 : 0 ≤ y) (hy1 : y ≤ R * S + 2 * Y - 1) (hx2 : X ≤ x) (hx3 : x ≤ X + 58 * S - 1) (hyo : y < Y ∨ Y + R * S - 1 < y) :
    Calls Try.prog 3 #[.agg #[.int .i64 L, .int .i64 R, .int .i64 58, .slice A n c], .int .i64 S, .int .i64 X, .int .i64 Y, .int .i64 x, .int .i64 y] w fun e w' => e = .returned (.bool true) ∧ Below w.heap.size w w' := by
  have hRS0 : 0 ≤ R * S := (hL.mul_S hS0 hS1).1
  have hRS1 : R * S ≤ 510 := (hL.mul_S hS0 hS1).2
  have hR0 : 0 < R := by rcases hL with ⟨_, h⟩ | ⟨_, h⟩ <;> omega
  have hR1 : R ≤ 85 := by rcases hL with ⟨_, h⟩ | ⟨_, h⟩ <;> omega
  obtain ⟨hm0, hm1⟩ := mul_bounds (58 * S + 2 * X) (R * S + 2 * Y) (by omega) (by omega) (by omega) (by omega)
  have HL := Lib.hid hL
  have HN := Lib.hid hn
  have HA := Lib.hid hall
  have HR := Lib.hid hr
  clear hall hr hL hn
  have hcode := code_of
  go_enter Try.func3, Try.ntmps3
  go_wp2_with fail
  refine (drawFault_ok A n c zs L R S X Y _ ((HR.out.alloc (Nat.le_refl _) _).more (by simp)) HL.out HN.out HA.out hS0 hS1 hX0 hX1 hY0 hY1).mono ?_
  rintro e w1 ⟨rfl, hb⟩
  obtain ⟨hc, hf⟩ := bcell hb
  have hz : w.heap.size < w1.heap.size := by have := hb.size; simp at this; omega
  go_wp2_with fail
  refine (draw_ok A n c zs L R S X Y _ (((HR.out.alloc (Nat.le_refl _) _).below (hb.mono (by simp))).more (by omega)) HL.out HN.out HA.out hS0 hS1 hX0 hX1 hY0 hY1).mono ?_
  rintro e w2 ⟨B, N, Wd, Ht, s, x0, y0, wd, j, rfl, rfl, rfl, hN, hs, hx, hy, hw, hj, hB, hP, hb2⟩
  have hpage : w2.heap[w.heap.size]? = some (.cells #[.int .i64 L, .int .i64 R, .int .i64 58, .slice A n c] 24 (0, 0)) :=
    (hb2.block _ hz).trans ((hb.block _ (by simp)).trans (heap_new _ _ _ rfl))
  have hbel : Below w.heap.size w w2 := (((Below.refl _ _).alloc (Nat.le_refl _) _).trans (hb.mono (by simp))).trans (hb2.mono (by omega))
  have HBel := Lib.hid hbel
  have p0 := cell_of_block hpage 0
  have p1 := cell_of_block hpage 1
  have p3 := cell_of_block hpage 3
  simp at p0 p1 p3
  have hz2 : w.heap.size < w2.heap.size := size_of_block hpage
  have hz3 : w.heap.size < w2.heap.size + 1 := by omega
  have hz4 : w.heap.size < w2.heap.size + 1 + 1 := by omega
  have hNeq : (N : Int) = (58 * S + 2 * X) * (R * S + 2 * Y) := by rw [hN]; omega
  have hNb : ((N : Int) != (58 * S + 2 * X) * (R * S + 2 * Y)) = false := by rw [hNeq]; simp
  have HNN := Lib.hid hN
  clear hc hf hz hb hb2 hbel hpage hNeq hN
  obtain ⟨ha0, ha1, ha2, ha3, ha4, _, _, _⟩ := at_facts (58 * S + 2 * X) (R * S + 2 * Y) x y N HNN.out hx0 hx1 hy0 hy1 (by omega) (by omega) (by omega) (by omega)
  have hc := (cell_of_block hP (y * (58 * S + 2 * X) + x).toNat).trans ((List.getElem?_toArray).trans (px_get zs L s x0 y0 wd N j 0 _ ha4))
  rw [pix_at zs L R S X Y (58 * S + 2 * X) x y s x0 y0 wd j hs hx hy hw hj hx0 hx1 hy0, if_neg (by omega)] at hc
  have hq2 : B < w2.heap.size := size_of_block hP
  have hq3 : B < w2.heap.size + 1 := by omega
  have hq4 : B < w2.heap.size + 1 + 1 := by omega
  clear hs hx hy hw hj hB hP
  go_wp2_with fail
  refine (in_yes _ _ _ _ hx0 hx1).mono ?_
  rintro e w' ⟨rfl, rfl⟩
  go_wp2_with fail
  refine (in_yes _ _ _ _ hy0 hy1).mono ?_
  rintro e w' ⟨rfl, rfl⟩
  go_wp2_with fail
  refine (in_yes _ _ _ _ hx2 hx3).mono ?_
  rintro e w' ⟨rfl, rfl⟩
  go_wp2_with fail
  refine (in_no _ _ _ _ hyo).mono ?_
  rintro e w' ⟨rfl, rfl⟩
  go_wp2_with (go_at_call 5; refine (drawn_true _).mono ?_; rintro e w3 ⟨rfl, hb3⟩; have HB3 := Lib.hid hb3; clear hb3)
  go_ret
  exact ⟨rfl, ((HBel.out.alloc HBel.out.size _).alloc (by have := HBel.out.size; simp; omega) _).trans (HB3.out.mono (by have := HBel.out.size; simp; omega))⟩

end Go.Proofs.Ytogcfcdneadocaa
