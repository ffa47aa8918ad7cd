/-
  The walk of the law RenderPixelsAreCells at a pixel that shows a cell: it answers true, and writes nothing that was there. Condition: the cells read as a list (Row).
-/
import Derived.Test.YtogcfcdneadocaaK
namespace Go.Proofs.Ytogcfcdneadocaa
open Go.RowKit

theorem below_new {w w' : World} (h : Below w.heap.size w w') (o : Obj) : Below w.heap.size w (w'.alloc o) := h.alloc h.size o
theorem below_then {w w1 w2 : World} (h : Below w.heap.size w w1) (h2 : Below w1.heap.size w1 w2) : Below w.heap.size w w2 := h.trans (h2.mono h.size)

set_option maxHeartbeats 2000000 in
set_option maxRecDepth 100000 in
theorem law_shade (A : Option Addr) (n c : Nat) (zs : List Int) (L R S X Y x y : Int) (w : World) (hr : Row w w.heap.size A n c zs) (hL : LvOk L R) (hn : (n : Int) = R * 58) (hall : ∀ k, k < n → zs.getD k 0 < L)
    (hS0 : 3 ≤ S) (hS1 : S ≤ 6) (hX0 : 2 ≤ X) (hX1 : X ≤ 40) (hY0 : 2 ≤ Y) (hY1 : Y ≤ 40) (hx0 : 0 ≤ x) (hx1 : x ≤ 58 * S + 2 * X - 1) (hy0 : 0 ≤ y) (hy1 : y ≤ R * S + 2 * Y - 1) (hx2 : X ≤ x) (hx3 : x ≤ X + 58 * S - 1) (hy2 : Y ≤ y) (hy3 : y ≤ Y + R * S - 1) :
    Calls Try.prog 3 #[.agg #[.int .i64 L, .int .i64 R, .int .i64 58, .slice A n c], .int .i64 S, .int .i64 X, .int .i64 Y, .int .i64 x, .int .i64 y] w fun e w' => e = .returned (.bool true) ∧ Below w.heap.size w w' := by
  have hRS0 : 0 ≤ R * S := (hL.mul_S hS0 hS1).1
  have hRS1 : R * S ≤ 510 := (hL.mul_S hS0 hS1).2
  have hR0 : 0 < R := by rcases hL with ⟨_, h⟩ | ⟨_, h⟩ <;> omega
  have hR1 : R ≤ 85 := by rcases hL with ⟨_, h⟩ | ⟨_, h⟩ <;> omega
  obtain ⟨hm0, hm1⟩ := mul_bounds (58 * S + 2 * X) (R * S + 2 * Y) (by omega) (by omega) (by omega) (by omega)
  obtain ⟨b, off, rfl, hb0, hcs⟩ := hr.2.2.2.2 (by omega)
  have HC := Lib.hid hcs
  clear hcs
  have HL := Lib.hid hL
  have HN := Lib.hid hn
  have HA := Lib.hid hall
  have HR := Lib.hid hr
  clear hall hr hL hn
  have hcode := code_of
  go_enter Try.func3, Try.ntmps3
  go_wp2_with fail
  refine (drawFault_ok _ n c zs L R S X Y _ ((HR.out.alloc (Nat.le_refl _) _).more (by simp)) HL.out HN.out HA.out hS0 hS1 hX0 hX1 hY0 hY1).mono ?_
  rintro e w1 ⟨rfl, hb⟩
  obtain ⟨hc, hf⟩ := bcell hb
  have hz : w.heap.size < w1.heap.size := by have := hb.size; simp at this; omega
  go_wp2_with fail
  refine (draw_ok _ n c zs L R S X Y _ (((HR.out.alloc (Nat.le_refl _) _).below (hb.mono (by simp))).more (by omega)) HL.out HN.out HA.out hS0 hS1 hX0 hX1 hY0 hY1).mono ?_
  rintro e w2 ⟨B, N, Wd, Ht, s, x0, y0, wd, j, rfl, rfl, rfl, hN, hs, hx, hy, hw, hj, hB, hP, hb2⟩
  have hpage : w2.heap[w.heap.size]? = some (.cells #[.int .i64 L, .int .i64 R, .int .i64 58, .slice (some ⟨b, off, none⟩) n c] 24 (0, 0)) :=
    (hb2.block _ hz).trans ((hb.block _ (by simp)).trans (heap_new _ _ _ rfl))
  have hbel : Below w.heap.size w w2 := (((Below.refl _ _).alloc (Nat.le_refl _) _).trans (hb.mono (by simp))).trans (hb2.mono (by omega))
  have HBel := Lib.hid hbel
  have p0 := cell_of_block hpage 0
  have p1 := cell_of_block hpage 1
  have p3 := cell_of_block hpage 3
  simp at p0 p1 p3
  have hz2 : w.heap.size < w2.heap.size := size_of_block hpage
  have hz3 : w.heap.size < w2.heap.size + 1 := by omega
  have hz4 : w.heap.size < w2.heap.size + 1 + 1 := by omega
  have hNeq : (N : Int) = (58 * S + 2 * X) * (R * S + 2 * Y) := by rw [hN]; omega
  have hNb : ((N : Int) != (58 * S + 2 * X) * (R * S + 2 * Y)) = false := by rw [hNeq]; simp
  have HNN := Lib.hid hN
  clear hc hf hz hb hb2 hbel hpage hNeq hN
  obtain ⟨ha0, ha1, ha2, ha3, ha4, _, _, _⟩ := at_facts (58 * S + 2 * X) (R * S + 2 * Y) x y N HNN.out hx0 hx1 hy0 hy1 (by omega) (by omega) (by omega) (by omega)
  have hc := (cell_of_block hP (y * (58 * S + 2 * X) + x).toNat).trans ((List.getElem?_toArray).trans (px_get zs L s x0 y0 wd N j 0 _ ha4))
  rw [pix_at zs L R S X Y (58 * S + 2 * X) x y s x0 y0 wd j hs hx hy hw hj hx0 hx1 hy0, if_pos ⟨hx2, hx3, hy2, hy3⟩] at hc
  have hq2 : B < w2.heap.size := size_of_block hP
  have hq3 : B < w2.heap.size + 1 := by omega
  have hq4 : B < w2.heap.size + 1 + 1 := by omega
  obtain ⟨hj0, hj84, hi0, hi57, hidx, heq, hlt3⟩ := cell_facts R S X Y x y s n hs hS0 (by omega) hR1 hx2 hx3 hy2 hy3 HN.out
  have hidx0 : 0 ≤ 58 * ((y - Y) / S) + (x - X) / S := by omega
  have hcell := ((HBel.out.cell (p := ⟨b, off + ((y - Y).toNat / s * 58 + (x - X).toNat / s), none⟩) hb0).trans (HC.out _ hlt3))
  have hzr := HR.out.range ((y - Y).toNat / s * 58 + (x - X).toNat / s)
  have hzL := HA.out _ hlt3
  obtain ⟨z, hzz⟩ : ∃ z, zs.getD ((y - Y).toNat / s * 58 + (x - X).toNat / s) 0 = z := ⟨_, rfl⟩
  rw [hzz] at hcell hzr hzL hc
  rw [← heq] at hcell
  clear heq hzz
  obtain ⟨hz0, hz1⟩ := hzr
  obtain ⟨hsh0, hsh1⟩ := shadeOf_range z L R HL.out hz0 hzL
  have hq5 : B < w2.heap.size + 1 + 1 + 1 := by omega
  have hq6 : B < w2.heap.size + 1 + 1 + 1 + 1 := by omega
  have hq7 : B < w2.heap.size + 1 + 1 + 1 + 1 + 1 := by omega
  clear hs hx hy hw hj hB hP
  go_wp2_with fail
  refine (in_yes _ _ _ _ hx0 hx1).mono ?_
  rintro e w' ⟨rfl, rfl⟩
  go_wp2_with fail
  refine (in_yes _ _ _ _ hy0 hy1).mono ?_
  rintro e w' ⟨rfl, rfl⟩
  go_wp2_with fail
  refine (in_yes _ _ _ _ hx2 hx3).mono ?_
  rintro e w' ⟨rfl, rfl⟩
  go_wp2_with fail
  refine (in_yes _ _ _ _ hy2 hy3).mono ?_
  rintro e w' ⟨rfl, rfl⟩
  go_wp2
  have e0 : ¬ S = 0 := by omega
  have e1 : IntKind.i64.wrap (y - Y) = y - Y := IntWalk.i64_in _ (by omega)
  have e2 : IntKind.i64.wrap (x - X) = x - X := IntWalk.i64_in _ (by omega)
  have e3 : IntKind.i64.wrap ((y - Y).tdiv S) = (y - Y) / S := IntWalk.i64_quo _ _ (by omega)
  have e4 : IntKind.i64.wrap ((x - X).tdiv S) = (x - X) / S := IntWalk.i64_quo _ _ (by omega)
  have e5 : IntKind.i64.wrap (58 * ((y - Y) / S)) = 58 * ((y - Y) / S) := IntWalk.i64_in _ (by omega)
  have e6 : IntKind.i64.wrap (58 * ((y - Y) / S) + (x - X) / S) = 58 * ((y - Y) / S) + (x - X) / S := IntWalk.i64_in _ (by omega)
  have e7 : IntKind.i64.wrap z = z := IntWalk.i64_in _ (by omega)
  go_region_held3 (fun w' => w'.cell? ⟨w.heap.size, 0, none⟩ = some (.int .i64 L) ∧ w'.cell? ⟨w.heap.size, 3, none⟩ = some (.slice (some ⟨b, off, none⟩) n c) ∧ w'.cell? ⟨b, off + (58 * ((y - Y) / S) + (x - X) / S).toNat, none⟩ = some (.int .u8 z)) (first | (refine ⟨?_, ?_, ?_⟩ <;> (repeat (first | with_reducible apply keep_alloc | with_reducible apply keep_drew)) <;> first | exact p0 | exact p3 | exact hcell) | go_keep) (first | (go_at_call 8; refine (tintShade_ok z L R _ HL.out hz0 hzL).mono ?_; rintro e w' ⟨rfl, rfl⟩))
  all_goals clear e0 e1 e2 e3 e4 e5 e6 e7
  all_goals go_wp2_with (go_at_call 5; refine (drawn_true _).mono ?_; rintro e w3 ⟨rfl, hb3⟩; have HB3 := Lib.hid hb3; clear hb3)
  all_goals go_ret
  all_goals exact ⟨rfl, below_then (below_new (below_new (below_new (below_new (below_new (below_new HBel.out _) _) _) _) _) _).drew HB3.out⟩


end Go.Proofs.Ytogcfcdneadocaa
