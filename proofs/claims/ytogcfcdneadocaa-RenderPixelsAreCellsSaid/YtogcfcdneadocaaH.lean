/-
  The walk of the law RenderPixelsAreCells where no drawing is made, or the pixel lies outside the image: it answers true, and writes nothing that was there. Condition: the cells read as a list (Row).
-/
import Derived.Test.YtogcfcdneadocaaG
namespace Go.Proofs.Ytogcfcdneadocaa
open Go.RowKit

theorem code_of (a b : Int) (w : World) : (Instr.field 26 (.agg #[.int .i64 a, .int .i64 b]) 0).run Try.prog w = .ok (.int .i64 a) w := by kernel_rfl

set_option maxRecDepth 100000 in
theorem law_bad (A : Option Addr) (n c : Nat) (zs : List Int) (L R C S X Y x y : Int) (w : World) (hr : Row w w.heap.size A n c zs) (h : ¬ DrawOk L R C S X Y n zs) :
    Calls Try.prog 3 #[.agg #[.int .i64 L, .int .i64 R, .int .i64 C, .slice A n c], .int .i64 S, .int .i64 X, .int .i64 Y, .int .i64 x, .int .i64 y] w fun e w' => e = .returned (.bool true) ∧ Below w.heap.size w w' := by
  have HG := Lib.hid h
  have HR := Lib.hid hr
  clear h hr
  have hcode := code_of
  go_enter Try.func3, Try.ntmps3
  go_wp2_with fail
  refine (drawFault_bad A n c zs L R C S X Y _ ((HR.out.alloc (Nat.le_refl _) _).more (by simp)) HG.out).mono ?_
  rintro e w1 ⟨cd, ix, hcd, rfl, hb⟩
  have HB := Lib.hid hb
  clear hb
  go_wp2_with (go_at_call 5; refine (drawn_true _).mono ?_; rintro e w2 ⟨rfl, hb2⟩; have HB2 := Lib.hid hb2; clear hb2)
  go_ret
  exact ⟨rfl, (((Below.refl _ _).alloc (Nat.le_refl _) _).trans (HB.out.mono (by simp))).trans (HB2.out.mono (by have := HB.out.size; simp at this; omega))⟩

set_option maxHeartbeats 2000000 in
set_option maxRecDepth 100000 in
theorem law_x (A : Option Addr) (n c : Nat) (zs : List Int) (L R S X Y x y : Int) (w : World) (hr : Row w w.heap.size A n c zs) (hL : LvOk L R) (hn : (n : Int) = R * 58) (hall : ∀ k, k < n → zs.getD k 0 < L)
    (hS0 : 3 ≤ S) (hS1 : S ≤ 6) (hX0 : 2 ≤ X) (hX1 : X ≤ 40) (hY0 : 2 ≤ Y) (hY1 : Y ≤ 40) (hxo : x < 0 ∨ 58 * S + 2 * X - 1 < x) :
    Calls Try.prog 3 #[.agg #[.int .i64 L, .int .i64 R, .int .i64 58, .slice A n c], .int .i64 S, .int .i64 X, .int .i64 Y, .int .i64 x, .int .i64 y] w fun e w' => e = .returned (.bool true) ∧ Below w.heap.size w w' := by
  have hRS0 : 0 ≤ R * S := (hL.mul_S hS0 hS1).1
  have hRS1 : R * S ≤ 510 := (hL.mul_S hS0 hS1).2
  have hR0 : 0 < R := by rcases hL with ⟨_, h⟩ | ⟨_, h⟩ <;> omega
  have hR1 : R ≤ 85 := by rcases hL with ⟨_, h⟩ | ⟨_, h⟩ <;> omega
  obtain ⟨hm0, hm1⟩ := mul_bounds (58 * S + 2 * X) (R * S + 2 * Y) (by omega) (by omega) (by omega) (by omega)
  have HL := Lib.hid hL
  have HN := Lib.hid hn
  have HA := Lib.hid hall
  have HR := Lib.hid hr
  clear hall hr hL hn
  have hcode := code_of
  go_enter Try.func3, Try.ntmps3
  go_wp2_with fail
  refine (drawFault_ok A n c zs L R S X Y _ ((HR.out.alloc (Nat.le_refl _) _).more (by simp)) HL.out HN.out HA.out hS0 hS1 hX0 hX1 hY0 hY1).mono ?_
  rintro e w1 ⟨rfl, hb⟩
  obtain ⟨hc, hf⟩ := bcell hb
  have hz : w.heap.size < w1.heap.size := by have := hb.size; simp at this; omega
  go_wp2_with fail
  refine (draw_ok A n c zs L R S X Y _ (((HR.out.alloc (Nat.le_refl _) _).below (hb.mono (by simp))).more (by omega)) HL.out HN.out HA.out hS0 hS1 hX0 hX1 hY0 hY1).mono ?_
  rintro e w2 ⟨B, N, Wd, Ht, s, x0, y0, wd, j, rfl, rfl, rfl, hN, hs, hx, hy, hw, hj, hB, hP, hb2⟩
  have hpage : w2.heap[w.heap.size]? = some (.cells #[.int .i64 L, .int .i64 R, .int .i64 58, .slice A n c] 24 (0, 0)) :=
    (hb2.block _ hz).trans ((hb.block _ (by simp)).trans (heap_new _ _ _ rfl))
  have hbel : Below w.heap.size w w2 := (((Below.refl _ _).alloc (Nat.le_refl _) _).trans (hb.mono (by simp))).trans (hb2.mono (by omega))
  have HBel := Lib.hid hbel
  have p0 := cell_of_block hpage 0
  have p1 := cell_of_block hpage 1
  have p3 := cell_of_block hpage 3
  simp at p0 p1 p3
  have hz2 : w.heap.size < w2.heap.size := size_of_block hpage
  have hz3 : w.heap.size < w2.heap.size + 1 := by omega
  have hz4 : w.heap.size < w2.heap.size + 1 + 1 := by omega
  have hNeq : (N : Int) = (58 * S + 2 * X) * (R * S + 2 * Y) := by rw [hN]; omega
  have hNb : ((N : Int) != (58 * S + 2 * X) * (R * S + 2 * Y)) = false := by rw [hNeq]; simp
  have HNN := Lib.hid hN
  clear hc hf hz hb hb2 hbel hpage hNeq hN
  clear hs hx hy hw hj hB hP
  go_wp2_with (first | (go_at_call 7; refine (in_no _ _ _ _ hxo).mono ?_; rintro e w' ⟨rfl, rfl⟩) | (go_at_call 5; refine (drawn_true _).mono ?_; rintro e w3 ⟨rfl, hb3⟩; have HB3 := Lib.hid hb3; clear hb3))
  go_ret
  exact ⟨rfl, ((HBel.out.alloc HBel.out.size _).alloc (by have := HBel.out.size; simp; omega) _).trans (HB3.out.mono (by have := HBel.out.size; simp; omega))⟩

set_option maxHeartbeats 2000000 in
set_option maxRecDepth 100000 in
theorem law_y (A : Option Addr) (n c : Nat) (zs : List Int) (L R S X Y x y : Int) (w : World) (hr : Row w w.heap.size A n c zs) (hL : LvOk L R) (hn : (n : Int) = R * 58) (hall : ∀ k, k < n → zs.getD k 0 < L)
    (hS0 : 3 ≤ S) (hS1 : S ≤ 6) (hX0 : 2 ≤ X) (hX1 : X ≤ 40) (hY0 : 2 ≤ Y) (hY1 : Y ≤ 40) (hx0 : 0 ≤ x) (hx1 : x ≤ 58 * S + 2 * X - 1) (hyo : y < 0 ∨ R * S + 2 * Y - 1 < y) :
    Calls Try.prog 3 #[.agg #[.int .i64 L, .int .i64 R, .int .i64 58, .slice A n c], .int .i64 S, .int .i64 X, .int .i64 Y, .int .i64 x, .int .i64 y] w fun e w' => e = .returned (.bool true) ∧ Below w.heap.size w w' := by
  have hRS0 : 0 ≤ R * S := (hL.mul_S hS0 hS1).1
  have hRS1 : R * S ≤ 510 := (hL.mul_S hS0 hS1).2
  have hR0 : 0 < R := by rcases hL with ⟨_, h⟩ | ⟨_, h⟩ <;> omega
  have hR1 : R ≤ 85 := by rcases hL with ⟨_, h⟩ | ⟨_, h⟩ <;> omega
  obtain ⟨hm0, hm1⟩ := mul_bounds (58 * S + 2 * X) (R * S + 2 * Y) (by omega) (by omega) (by omega) (by omega)
  have HL := Lib.hid hL
  have HN := Lib.hid hn
  have HA := Lib.hid hall
  have HR := Lib.hid hr
  clear hall hr hL hn
  have hcode := code_of
  go_enter Try.func3, Try.ntmps3
  go_wp2_with fail
  refine (drawFault_ok A n c zs L R S X Y _ ((HR.out.alloc (Nat.le_refl _) _).more (by simp)) HL.out HN.out HA.out hS0 hS1 hX0 hX1 hY0 hY1).mono ?_
  rintro e w1 ⟨rfl, hb⟩
  obtain ⟨hc, hf⟩ := bcell hb
  have hz : w.heap.size < w1.heap.size := by have := hb.size; simp at this; omega
  go_wp2_with fail
  refine (draw_ok A n c zs L R S X Y _ (((HR.out.alloc (Nat.le_refl _) _).below (hb.mono (by simp))).more (by omega)) HL.out HN.out HA.out hS0 hS1 hX0 hX1 hY0 hY1).mono ?_
  rintro e w2 ⟨B, N, Wd, Ht, s, x0, y0, wd, j, rfl, rfl, rfl, hN, hs, hx, hy, hw, hj, hB, hP, hb2⟩
  have hpage : w2.heap[w.heap.size]? = some (.cells #[.int .i64 L, .int .i64 R, .int .i64 58, .slice A n c] 24 (0, 0)) :=
    (hb2.block _ hz).trans ((hb.block _ (by simp)).trans (heap_new _ _ _ rfl))
  have hbel : Below w.heap.size w w2 := (((Below.refl _ _).alloc (Nat.le_refl _) _).trans (hb.mono (by simp))).trans (hb2.mono (by omega))
  have HBel := Lib.hid hbel
  have p0 := cell_of_block hpage 0
  have p1 := cell_of_block hpage 1
  have p3 := cell_of_block hpage 3
  simp at p0 p1 p3
  have hz2 : w.heap.size < w2.heap.size := size_of_block hpage
  have hz3 : w.heap.size < w2.heap.size + 1 := by omega
  have hz4 : w.heap.size < w2.heap.size + 1 + 1 := by omega
  have hNeq : (N : Int) = (58 * S + 2 * X) * (R * S + 2 * Y) := by rw [hN]; omega
  have hNb : ((N : Int) != (58 * S + 2 * X) * (R * S + 2 * Y)) = false := by rw [hNeq]; simp
  have HNN := Lib.hid hN
  clear hc hf hz hb hb2 hbel hpage hNeq hN
  clear hs hx hy hw hj hB hP
  go_wp2_with fail
  refine (in_yes _ _ _ _ hx0 hx1).mono ?_
  rintro e w' ⟨rfl, rfl⟩
  go_wp2_with (first | (go_at_call 7; refine (in_no _ _ _ _ hyo).mono ?_; rintro e w' ⟨rfl, rfl⟩) | (go_at_call 5; refine (drawn_true _).mono ?_; rintro e w3 ⟨rfl, hb3⟩; have HB3 := Lib.hid hb3; clear hb3))
  go_ret
  exact ⟨rfl, ((HBel.out.alloc HBel.out.size _).alloc (by have := HBel.out.size; simp; omega) _).trans (HB3.out.mono (by have := HBel.out.size; simp; omega))⟩

end Go.Proofs.Ytogcfcdneadocaa
