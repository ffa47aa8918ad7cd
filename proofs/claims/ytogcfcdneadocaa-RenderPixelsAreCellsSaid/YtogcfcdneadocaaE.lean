/-
  The walk of render.Draw on a grid that can be drawn. Condition: what DrawFault lets by.
-/
import Derived.Test.YtogcfcdneadocaaQ
namespace Go.Proofs.Ytogcfcdneadocaa
open Go.RowKit

theorem LvOk.mul_S {L R S : Int} (h : LvOk L R) (h0 : 3 ≤ S) (h1 : S ≤ 6) : 0 ≤ R * S ∧ R * S ≤ 510 := by
  rcases h with ⟨_, rfl⟩ | ⟨_, rfl⟩ <;> omega

theorem mul_bounds (a b : Int) (h0 : 1 ≤ a) (h1 : a ≤ 428) (h2 : 1 ≤ b) (h3 : b ≤ 590) : 1 ≤ a * b ∧ a * b ≤ 1000000 := by
  have e1 : 0 < a * b := Int.mul_pos (by omega) (by omega)
  have e2 : a * b ≤ 428 * 590 := Int.mul_le_mul h1 h3 (by omega) (by omega)
  omega

theorem wrap_small (a : Int) (h0 : 0 ≤ a) (h1 : a ≤ 1000000) : wrap64 a = a := by
  unfold wrap64
  omega

set_option maxHeartbeats 2000000 in
set_option maxRecDepth 100000 in
theorem draw_ok (A : Option Addr) (n c : Nat) (zs : List Int) (L R S X Y : Int) (w : World) (hr : Row w w.heap.size A n c zs) (hL : LvOk L R) (hn : (n : Int) = R * 58) (hall : ∀ k, k < n → zs.getD k 0 < L)
    (hS0 : 3 ≤ S) (hS1 : S ≤ 6) (hX0 : 2 ≤ X) (hX1 : X ≤ 40) (hY0 : 2 ≤ Y) (hY1 : Y ≤ 40) :
    Calls Try.prog 6 #[.agg #[.int .i64 L, .int .i64 R, .int .i64 58, .slice A n c], .int .i64 S, .int .i64 X, .int .i64 Y] w (Drawn w zs L R S X Y) := by
  have hRS0 : 0 ≤ R * S := (hL.mul_S hS0 hS1).1
  have hRS1 : R * S ≤ 510 := (hL.mul_S hS0 hS1).2
  have hR0 : 0 < R := by rcases hL with ⟨_, h⟩ | ⟨_, h⟩ <;> omega
  have hR1 : R ≤ 85 := by rcases hL with ⟨_, h⟩ | ⟨_, h⟩ <;> omega
  obtain ⟨b, off, rfl, hb0, hcs⟩ := hr.2.2.2.2 (by omega)
  have hL2 : 2 ≤ L := by rcases hL with ⟨h, _⟩ | ⟨h, _⟩ <;> omega
  have HC := Lib.hid hcs
  clear hcs
  have HL := Lib.hid hL
  have HN := Lib.hid hn
  have HA := Lib.hid hall
  have HR := Lib.hid hr
  clear hall hr hL hn
  go_enter Try.func6, Try.ntmps6
  go_wp2_with fail
  refine (validate_ok _ n c zs L R _ ((((HR.out.alloc (Nat.le_refl _) _).alloc (by simp) _).alloc (by simp; omega) _).more (by simp; omega)) HL.out HN.out HA.out).mono ?_
  rintro e w1 ⟨rfl, hb⟩
  obtain ⟨hc, hf⟩ := bcell hb
  have hz : w.heap.size + 1 + 1 < w1.heap.size := by have := hb.size; simp at this; omega
  have hz0 : w.heap.size < w1.heap.size := by omega
  have hz1 : w.heap.size + 1 < w1.heap.size := by omega
  have hy0 : w.heap.size < w1.heap.size + 1 := by omega
  have hy1 : w.heap.size + 1 < w1.heap.size + 1 := by omega
  have hy2 : w.heap.size + 1 + 1 < w1.heap.size + 1 := by omega
  go_wp2_with (go_at_call 13; refine (margin_ok _ _ (by omega) (by omega)).mono ?_; rintro e w' ⟨rfl, rfl⟩)
  clear hy0 hy1 hy2
  generalize hW : 58 * S + 2 * X = Wd
  generalize hH : R * S + 2 * Y = Ht
  have hW0 : 178 ≤ Wd := by omega
  have hW1 : Wd ≤ 428 := by omega
  have hH0 : 1 ≤ Ht := by omega
  have hH1 : Ht ≤ 590 := by omega
  have HW := Lib.hid hW
  have HH := Lib.hid hH
  clear hW hH
  obtain ⟨hN0, hN1⟩ := mul_bounds Wd Ht (by omega) hW1 hH0 hH1
  rw [wrap_small _ (by omega) hN1]
  refine (repeat_ok _ 1 (Wd * Ht) _ ?_ ?_ hN0 hN1).mono ?_
  · exact cell_of_block (heap_new _ _ _ (by simp)) 0
  · simp
  rintro e w2 ⟨rfl, hP, hb2⟩
  simp only [World.size_alloc] at hP hb2 ⊢
  generalize hN : (Wd * Ht).toNat = N at *
  have HNN := Lib.hid hN
  clear hN
  have hBig := hb.trans (((((Below.refl _ _).alloc (by simp; omega) _).alloc (by simp; omega) _).alloc (by simp; omega) _).trans (hb2.mono (by simp; omega)))
  have hsz : w1.heap.size + 1 + 1 + 1 < w2.heap.size := size_of_block hP
  have hpage : w2.heap[w.heap.size]? = some (.cells #[.int .i64 L, .int .i64 R, .int .i64 58, .slice (some ⟨b, off, none⟩) n c] 24 (0, 0)) :=
    (hBig.block _ (by simp; omega)).trans (heap_old _ (by simp; omega) (heap_old _ (by simp) (heap_new _ _ _ rfl)))
  have hres1 : w2.heap[w.heap.size + 1]? = some (.cells #[.int .i64 0, .int .i64 0, .slice none 0 0] 30 (0, 0)) :=
    (hBig.block _ (by simp)).trans (heap_old _ (by simp) (heap_new _ _ _ (by simp)))
  have hres2 : w2.heap[w.heap.size + 1 + 1]? = some (.cells #[.int .i64 0, .int .i64 0] 26 (0, 0)) :=
    (hBig.block _ (by simp)).trans (heap_new _ _ _ (by simp))
  have himage : w2.heap[w1.heap.size + 1]? = some (.cells #[.int .i64 Wd, .int .i64 Ht, .slice none 0 0] 30 (0, 0)) :=
    (hb2.block _ (by omega)).trans (heap_old _ (by simp) (heap_new _ _ _ (by simp)))
  have hbel : Below w.heap.size w w2 := ((((Below.refl _ _).alloc (Nat.le_refl _) _).alloc (by simp) _).alloc (by simp; omega) _).trans (hBig.mono (by simp; omega))
  have hO : w.heap.size + 1 < w1.heap.size + 1 := by omega
  clear hBig hb2 hb hc hf hz hz0 hz1
  have p1 := cell_of_block hpage 1
  have p2 := cell_of_block hpage 2
  have p3 := cell_of_block himage 2
  have p4 := frozen_of_block himage 2
  simp at p1 p2 p3
  have HPG := Lib.hid hpage
  have HI := Lib.hid himage
  have H1 := Lib.hid hres1
  have H2 := Lib.hid hres2
  have HP := Lib.hid hP
  clear hpage himage hres1 hres2 hP
  have hWd := Lib.hid (Inv.start (sl := .slice (some ⟨w1.heap.size + 1 + 1 + 1, 0, none⟩) N N) hbel HPG.out H1.out H2.out HI.out HP.out hO)
  obtain ⟨s, hs⟩ : ∃ s : Nat, S = s := ⟨S.toNat, by omega⟩
  obtain ⟨x0, hx⟩ : ∃ x : Nat, X = x := ⟨X.toNat, by omega⟩
  obtain ⟨y0, hy⟩ : ∃ x : Nat, Y = x := ⟨Y.toNat, by omega⟩
  obtain ⟨wd, hw⟩ : ∃ x : Nat, Wd = x := ⟨Wd.toNat, by omega⟩
  have Hs := Lib.hid hs
  have Hx := Lib.hid hx
  have Hy := Lib.hid hy
  have Hw := Lib.hid hw
  clear hs hx hy hw
  generalize w1.heap.size = F at *
  go_wp2
  go_loopw [74] (fun v wr => ∃ j : Nat, (j : Int) ≤ R * S ∧ v = .int .i64 j ∧ Inv w (F + 1) (F + 1 + 1 + 1) #[.int .i64 L, .int .i64 R, .int .i64 58, .slice (some ⟨b, off, none⟩) n c] #[.int .i64 Wd, .int .i64 Ht, .slice (some ⟨F + 1 + 1 + 1, 0, none⟩) N N] (px zs L s x0 y0 wd N j 0) wr) (fun v _ => (R * S).toNat - (intOf v).toNat)
  case atStart =>
    refine ⟨0, by omega, rfl, ?_⟩
    rw [px_start]
    exact hWd.out
  case round =>
    obtain ⟨j, hj, rfl, hI⟩ := hrel
    by_cases hlt : (j : Int) < R * S
    · have q2 := cell_of_block hI.page 2
      simp at q2
      have HI0 := Lib.hid hI
      clear hI
      obtain ⟨wo, rfl⟩ : ∃ wo : World, wo = wr := ⟨_, rfl⟩
      go_wp2
      go_loopw [81] (fun v wr => ∃ i : Nat, (i : Int) ≤ 58 * S ∧ v = .int .i64 i ∧ Inv w (F + 1) (F + 1 + 1 + 1) #[.int .i64 L, .int .i64 R, .int .i64 58, .slice (some ⟨b, off, none⟩) n c] #[.int .i64 Wd, .int .i64 Ht, .slice (some ⟨F + 1 + 1 + 1, 0, none⟩) N N] (px zs L s x0 y0 wd N j i) wr) (fun v _ => (58 * S).toNat - (intOf v).toNat)
      case atStart => exact ⟨0, by omega, rfl, HI0.out⟩
      case round =>
        obtain ⟨i, hi, rfl, hI⟩ := hrel
        by_cases hlt2 : (i : Int) < 58 * S
        · have q0 := cell_of_block hI.page 0
          have q2 := cell_of_block hI.page 2
          have q3 := cell_of_block hI.page 3
          simp at q0 q2 q3
          have HI1 := Lib.hid hI
          clear hI
          obtain ⟨hj0, hj84, hi0, hi57, hidx, heq, hlt3⟩ := idx_facts R S s j i n Hs.out hS0 (by omega) hR1 hlt hlt2 HN.out
          have hidx0 : 0 ≤ (j : Int) / S * 58 + (i : Int) / S := by omega
          have hcell := ((HI1.out.bel.cell (p := ⟨b, off + (j / s * 58 + i / s), none⟩) hb0).trans (HC.out _ hlt3))
          have hz := HR.out.range (j / s * 58 + i / s)
          have hzL := HA.out _ hlt3
          obtain ⟨z, hzz⟩ : ∃ z, zs.getD (j / s * 58 + i / s) 0 = z := ⟨_, rfl⟩
          rw [hzz] at hcell hz hzL
          rw [← heq] at hcell
          have HEQ := Lib.hid heq
          have HZ := Lib.hid hzz
          clear heq hzz
          obtain ⟨hz0, hz1⟩ := hz
          obtain ⟨hsh0, hsh1⟩ := shadeOf_range z L R HL.out hz0 hzL
          have k0 := World.new_ne _ _ q0
          have k1 := World.new_ne _ _ hcell
          go_wp2
          have e1 : ¬ S = 0 := by omega
          have e2 : IntKind.i64.wrap ((j : Int) / S) = (j : Int) / S := IntWalk.i64_in _ (by omega)
          have e3 : IntKind.i64.wrap ((i : Int) / S) = (i : Int) / S := IntWalk.i64_in _ (by omega)
          have e4 : IntKind.i64.wrap ((j : Int) / S * 58) = (j : Int) / S * 58 := IntWalk.i64_in _ (by omega)
          have e5 : IntKind.i64.wrap ((j : Int) / S * 58 + (i : Int) / S) = (j : Int) / S * 58 + (i : Int) / S := IntWalk.i64_in _ (by omega)
          have e6 : IntKind.i64.wrap z = z := IntWalk.i64_in _ (by omega)
          go_region_held3 (fun w' => w'.cell? ⟨w.heap.size, 0, none⟩ = some (.int .i64 L) ∧ w'.cell? ⟨w.heap.size, 2, none⟩ = some (.int .i64 58) ∧ w'.cell? ⟨w.heap.size, 3, none⟩ = some (.slice (some ⟨b, off, none⟩) n c) ∧ w'.cell? ⟨b, off + ((j : Int) / S * 58 + (i : Int) / S).toNat, none⟩ = some (.int .u8 z)) (first | (refine ⟨?_, ?_, ?_, ?_⟩ <;> (repeat (first | with_reducible apply keep_alloc | with_reducible apply keep_drew)) <;> first | exact q0 | exact q2 | exact q3 | exact hcell) | go_keep) (first | (go_at_call 8; refine (tintShade_ok z L R _ HL.out hz0 hzL).mono ?_; rintro e w' ⟨rfl, rfl⟩))
          all_goals
            have HI2 := ((((HI1.out.alloc (.cells #[.int .i64 0, .int .i64 0] 26)).alloc (.cells #[.int .i64 0, .int .i64 0] 26)).alloc (.cells #[.int .i64 0, .int .i64 0] 26)).alloc (.cells #[.int .i64 0, .int .i64 0] 26)).drew
            generalize ((((wr.alloc (.cells #[.int .i64 0, .int .i64 0] 26)).alloc (.cells #[.int .i64 0, .int .i64 0] 26)).alloc (.cells #[.int .i64 0, .int .i64 0] 26)).alloc (.cells #[.int .i64 0, .int .i64 0] 26)).drew = wq at HI2 ⊢
            clear e1 e2 e3 e4 e5 e6 q0 q2 q3 k0 k1 hcell
            have m0 := cell_of_block HI2.image 0
            have m2 := cell_of_block HI2.image 2
            obtain ⟨ha0, ha1, ha2, haq, haN, haw⟩ := place_facts R S X Y Wd Ht s x0 y0 wd N j i Hs.out Hx.out Hy.out Hw.out HW.out HH.out HNN.out hX0 hY0 hlt hlt2 hW1 hH1
            have m3 := (cell_of_block HI2.pixels ((j + y0) * wd + (i + x0))).trans ((List.getElem?_toArray).trans (px_get zs L s x0 y0 wd N j i _ haN))
            have m4 := frozen_of_block HI2.pixels ((j + y0) * wd + (i + x0))
            rw [← haq] at m3 m4
            have HAQ := Lib.hid haq
            have HQ := Lib.hid HI2
            clear haq HI2
            simp at m0 m2
            go_wp2
            refine ⟨⟨i + 1, by omega, by go_num, ?_⟩, by simp [intOf]; omega⟩
            rw [px_step _ _ _ _ _ _ _ _ _ (by have := Hs.out; omega) haw, HZ.out, HAQ.out]
            exact HQ.out.base (by omega) _ _
        · have hi58 : i = 58 * s := by have := Hs.out; omega
          subst hi58
          have HI1 := Lib.hid hI
          clear hI
          go_wp2
          go_roundw
          case rel => exact ⟨j + 1, by omega, by go_num, by rw [← px_row]; exact HI1.out⟩
          case measure => simp [intOf]; omega
    · have hjR : (j : Int) = R * S := by omega
      have HJ := Lib.hid hjR
      clear hjR
      have q0 := cell_of_block hI.image 0
      have q1 := cell_of_block hI.image 1
      have q2 := cell_of_block hI.image 2
      have r0 := cell_of_block hI.res1 0
      have r1 := cell_of_block hI.res1 1
      have r2 := cell_of_block hI.res1 2
      have f0 := cell_of_block hI.res2 0
      have f1 := cell_of_block hI.res2 1
      have z0 := frozen_of_block hI.res1 0
      have z1 := frozen_of_block hI.res1 1
      have z2 := frozen_of_block hI.res1 2
      have z3 := frozen_of_block hI.res2 0
      have z4 := frozen_of_block hI.res2 1
      simp at q0 q1 q2 r0 r1 r2 f0 f1
      have HI1 := Lib.hid hI
      clear hI
      go_wp2
      have hfin := HI1.out.finish (.int .i64 Wd) (.int .i64 Ht) (.slice (some ⟨F + 1 + 1 + 1, 0, none⟩) N N) (.int .i64 0) (.int .i64 0)
      exact bodyPost_ret (v := .tuple #[.agg #[.int .i64 Wd, .int .i64 Ht, .slice (some ⟨F + 1 + 1 + 1, 0, none⟩) N N], .agg #[.int .i64 0, .int .i64 0]]) (by simp [results, Try.results6, go_sem, r0, r1, r2, f0, f1]) rfl
        ⟨F + 1 + 1 + 1, N, Wd, Ht, s, x0, y0, wd, j, rfl, HW.out.symm, HH.out.symm, HNN.out.symm, Hs.out, Hx.out, Hy.out, Hw.out, HJ.out, by omega, hfin.1, hfin.2⟩
end Go.Proofs.Ytogcfcdneadocaa
