/-
  Contracts of GridFault, page.Validate and DrawFault: they answer no fault on a grid that can be drawn, and a fault on every other one. Condition: the cells read as a list (Row).
-/
import Derived.Test.YtogcfcdneadocaaB
namespace Go.Proofs.Ytogcfcdneadocaa
open Go.RowKit

theorem below_draws {B : Nat} {a w : World} (h : Below B a w) (n : Nat) : Below B a (w.drewN n) := h.trans ⟨rfl, rfl, rfl, Nat.le_refl _, fun _ _ => rfl⟩

theorem bcell {W w1 : World} {B : Nat} (hb : Below B W w1) : (∀ b o, b < B → w1.cell? ⟨b, o, none⟩ = W.cell? ⟨b, o, none⟩) ∧ (∀ b o, b < B → w1.frozen? ⟨b, o, none⟩ = W.frozen? ⟨b, o, none⟩) :=
  ⟨fun b o h => hb.cell (p := ⟨b, o, none⟩) h, fun b o h => hb.frozen (p := ⟨b, o, none⟩) h⟩

/-- The call answers a fault. -/
def Bad (w : World) (e : Ending) (w' : World) : Prop := ∃ c i : Int, (c != 0) = true ∧ e = .returned (.agg #[.int .i64 c, .int .i64 i]) ∧ Below w.heap.size w w'

theorem cellsFault_bad (A : Option Addr) (n c : Nat) (zs : List Int) (L : Int) (w : World) (hr : Row w w.heap.size A n c zs) (j : Nat) (hj : j < n) (hbad : L ≤ zs.getD j 0) :
    Calls Try.prog 20 #[.slice A n c, .int .i64 L] w (Bad w) := by
  have hn : n ≤ 9223372036854775807 := by have := hr.2.1; have h2 := hr.2.2.1; unfold maxLen at h2; omega
  have HB := Lib.hid hbad
  have HR := Lib.hid hr
  clear hbad hr
  go_enter Try.func20, Try.ntmps20
  go_wp2
  go_loop [5] (fun i => ∃ k : Nat, k ≤ j ∧ i = .int .i64 k) (fun i => n - (intOf i).toNat)
  case atStart => exact ⟨0, Nat.zero_le _, rfl⟩
  case round =>
    obtain ⟨k, hk, rfl⟩ := hrel
    have hlt : k < n := by omega
    have hkj : zs.getD k 0 < L → k < j := fun h => by
      rcases Nat.lt_or_ge k j with h1 | h1
      · exact h1
      · have : k = j := by omega
        subst this
        have := HB.out
        omega
    obtain ⟨b, off, rfl, hb, hc⟩ := HR.out.2.2.2.2 (by omega)
    have hcell := hc k hlt
    have hz := HR.out.range k
    clear hc
    generalize zs.getD k 0 = z at *
    obtain ⟨hz0, hz1⟩ := hz
    by_cases hzL : z < L
    · have hkj' := hkj hzL
      clear hkj
      go_wp2
      go_round
      case rel => exact ⟨k + 1, by omega, by go_num⟩
      case measure => simp [intOf]; omega
    · clear hkj
      go_wp2_with (go_at_call 10; refine (at_any _ _ _).mono ?_; rintro e w' ⟨rfl, rfl⟩)
      exact bodyPost_ret (v := .agg #[.int .i64 4, .int .i64 k]) (by simp [results, Try.results20, go_sem]) rfl ⟨4, k, rfl, rfl, ((Below.refl _ _).alloc (Nat.le_refl _) _).alloc (by simp) _⟩

theorem gridFault_ok (A : Option Addr) (n c : Nat) (zs : List Int) (L R : Int) (w : World) (hr : Row w w.heap.size A n c zs) (hL : LvOk L R) (hn : (n : Int) = R * 58) (hall : ∀ k, k < n → zs.getD k 0 < L) :
    Calls Try.prog 9 #[.agg #[.int .i64 L, .int .i64 R, .int .i64 58, .slice A n c]] w fun e w' => e = .returned (.agg #[.int .i64 0, .int .i64 0]) ∧ Below w.heap.size w w' := by
  have hR0 : 0 < R := by rcases hL with ⟨_, h⟩ | ⟨_, h⟩ <;> omega
  have hR1 : R ≤ 85 := by rcases hL with ⟨_, h⟩ | ⟨_, h⟩ <;> omega
  have hRz : (R == 0) = false := by simp; omega
  have hnn : ((n : Int) != R * 58) = false := by simp [hn]
  have HL := Lib.hid hL
  have HA := Lib.hid hall
  have HR := Lib.hid hr
  clear hall hr hL hn
  go_enter Try.func9, Try.ntmps9
  go_wp2_with (go_at_call 19; refine (rowsOf_ok L R _ HL.out).mono ?_; rintro e w' ⟨rfl, rfl⟩)
  go_quiet ((go_at_call 19; exact Calls.quiet_of_same ((rowsOf_ok L R _ HL.out).mono fun _ _ ⟨h, h'⟩ => ⟨h, h'.symm⟩)))
  go_wp2_with fail
  refine (cellsFault_ok A n c zs L _ ((((HR.out.alloc (Nat.le_refl _) _).alloc (by simp) _).drewN _).more (by simp; omega)) HA.out).mono ?_
  rintro e w1 ⟨rfl, hb⟩
  obtain ⟨hc, hf⟩ := bcell hb
  have hz : w.heap.size + 1 < w1.heap.size := by have := hb.size; simp at this; omega
  go_wp2
  exact bodyPost_ret (v := .agg #[.int .i64 0, .int .i64 0]) (by simp [results, Try.results9, go_sem, hc]) rfl ⟨rfl, ((below_draws (((Below.refl _ _).alloc (Nat.le_refl _) _).alloc (by simp) _) nq).trans (hb.mono (by simp; omega))).setCell (by simp) _ |>.setCell (by simp) _⟩

theorem gridFault_cells (A : Option Addr) (n c : Nat) (zs : List Int) (L R : Int) (w : World) (hr : Row w w.heap.size A n c zs) (hL : LvOk L R) (hn : (n : Int) = R * 58) (j : Nat) (hj : j < n) (hbad : L ≤ zs.getD j 0) :
    Calls Try.prog 9 #[.agg #[.int .i64 L, .int .i64 R, .int .i64 58, .slice A n c]] w (Bad w) := by
  have hR0 : 0 < R := by rcases hL with ⟨_, h⟩ | ⟨_, h⟩ <;> omega
  have hR1 : R ≤ 85 := by rcases hL with ⟨_, h⟩ | ⟨_, h⟩ <;> omega
  have hRz : (R == 0) = false := by simp; omega
  have hnn : ((n : Int) != R * 58) = false := by simp [hn]
  have HL := Lib.hid hL
  have HB := Lib.hid hbad
  have HR := Lib.hid hr
  clear hbad hr hL hn
  go_enter Try.func9, Try.ntmps9
  go_wp2_with (go_at_call 19; refine (rowsOf_ok L R _ HL.out).mono ?_; rintro e w' ⟨rfl, rfl⟩)
  go_quiet ((go_at_call 19; exact Calls.quiet_of_same ((rowsOf_ok L R _ HL.out).mono fun _ _ ⟨h, h'⟩ => ⟨h, h'.symm⟩)))
  go_wp2_with fail
  refine (cellsFault_bad A n c zs L _ ((((HR.out.alloc (Nat.le_refl _) _).alloc (by simp) _).drewN _).more (by simp; omega)) j hj HB.out).mono ?_
  rintro e w1 ⟨cd, ix, hcd, rfl, hb⟩
  obtain ⟨hc, hf⟩ := bcell hb
  have hz : w.heap.size + 1 < w1.heap.size := by have := hb.size; simp at this; omega
  have HC := Lib.hid hcd
  clear hcd
  go_wp2
  exact bodyPost_ret (v := .agg #[.int .i64 cd, .int .i64 ix]) (by simp [results, Try.results9, go_sem, hc]) rfl ⟨cd, ix, HC.out, rfl, ((below_draws (((Below.refl _ _).alloc (Nat.le_refl _) _).alloc (by simp) _) nq).trans (hb.mono (by simp; omega))).setCell (by simp) _ |>.setCell (by simp) _⟩

theorem gridFault_len (A : Option Addr) (n c : Nat) (L R : Int) (w : World) (hL : LvOk L R) (hn : ((n : Int) != R * 58) = true) :
    Calls Try.prog 9 #[.agg #[.int .i64 L, .int .i64 R, .int .i64 58, .slice A n c]] w (Bad w) := by
  have hR0 : 0 < R := by rcases hL with ⟨_, h⟩ | ⟨_, h⟩ <;> omega
  have hR1 : R ≤ 85 := by rcases hL with ⟨_, h⟩ | ⟨_, h⟩ <;> omega
  have hRz : (R == 0) = false := by simp; omega
  have HL := Lib.hid hL
  clear hL
  go_enter Try.func9, Try.ntmps9
  go_wp2_with (go_at_call 19; refine (rowsOf_ok L R _ HL.out).mono ?_; rintro e w' ⟨rfl, rfl⟩)
  go_quiet ((go_at_call 19; exact Calls.quiet_of_same ((rowsOf_ok L R _ HL.out).mono fun _ _ ⟨h, h'⟩ => ⟨h, h'.symm⟩)))
  go_wp2_with (go_at_call 10; refine (at_any _ _ _).mono ?_; rintro e w' ⟨rfl, rfl⟩)
  exact bodyPost_ret (v := .agg #[.int .i64 9, .int .i64 (-4)]) (by simp [results, Try.results9, go_sem]) rfl ⟨9, -4, rfl, rfl, (((below_draws (((Below.refl _ _).alloc (Nat.le_refl _) _).alloc (by simp) _) nq).setCell (by simp) _).setCell (by simp) _).alloc (by simp; omega) _⟩

theorem gridFault_columns (A : Option Addr) (n c : Nat) (L R C : Int) (w : World) (hL : LvOk L R) (hC : (C != 58) = true) :
    Calls Try.prog 9 #[.agg #[.int .i64 L, .int .i64 R, .int .i64 C, .slice A n c]] w (Bad w) := by
  have hR0 : 0 < R := by rcases hL with ⟨_, h⟩ | ⟨_, h⟩ <;> omega
  have hR1 : R ≤ 85 := by rcases hL with ⟨_, h⟩ | ⟨_, h⟩ <;> omega
  have hRz : (R == 0) = false := by simp; omega
  have HL := Lib.hid hL
  clear hL
  go_enter Try.func9, Try.ntmps9
  go_wp2_with (go_at_call 19; refine (rowsOf_ok L R _ HL.out).mono ?_; rintro e w' ⟨rfl, rfl⟩)
  go_quiet ((go_at_call 19; exact Calls.quiet_of_same ((rowsOf_ok L R _ HL.out).mono fun _ _ ⟨h, h'⟩ => ⟨h, h'.symm⟩)))
  go_wp2_with (go_at_call 10; refine (at_any _ _ _).mono ?_; rintro e w' ⟨rfl, rfl⟩)
  exact bodyPost_ret (v := .agg #[.int .i64 6, .int .i64 (-3)]) (by simp [results, Try.results9, go_sem]) rfl ⟨6, -3, rfl, rfl, (((below_draws (((Below.refl _ _).alloc (Nat.le_refl _) _).alloc (by simp) _) nq).setCell (by simp) _).setCell (by simp) _).alloc (by simp; omega) _⟩

theorem gridFault_rows (A : Option Addr) (n c : Nat) (L R R' C : Int) (w : World) (hL : LvOk L R') (hR : (R != R') = true) :
    Calls Try.prog 9 #[.agg #[.int .i64 L, .int .i64 R, .int .i64 C, .slice A n c]] w (Bad w) := by
  have hR0 : 0 < R' := by rcases hL with ⟨_, h⟩ | ⟨_, h⟩ <;> omega
  have hRz : (R' == 0) = false := by simp; omega
  have HL := Lib.hid hL
  clear hL
  go_enter Try.func9, Try.ntmps9
  go_wp2_with (go_at_call 19; refine (rowsOf_ok L R' _ HL.out).mono ?_; rintro e w' ⟨rfl, rfl⟩)
  go_quiet ((go_at_call 19; exact Calls.quiet_of_same ((rowsOf_ok L R' _ HL.out).mono fun _ _ ⟨h, h'⟩ => ⟨h, h'.symm⟩)))
  go_wp2_with (go_at_call 10; refine (at_any _ _ _).mono ?_; rintro e w' ⟨rfl, rfl⟩)
  exact bodyPost_ret (v := .agg #[.int .i64 6, .int .i64 (-2)]) (by simp [results, Try.results9, go_sem]) rfl ⟨6, -2, rfl, rfl, (((below_draws (((Below.refl _ _).alloc (Nat.le_refl _) _).alloc (by simp) _) nq).setCell (by simp) _).setCell (by simp) _).alloc (by simp; omega) _⟩

theorem gridFault_levels (A : Option Addr) (n c : Nat) (L R C : Int) (w : World) (h2 : (L == 2) = false) (h4 : (L == 4) = false) :
    Calls Try.prog 9 #[.agg #[.int .i64 L, .int .i64 R, .int .i64 C, .slice A n c]] w (Bad w) := by
  have H2 := Lib.hid h2
  have H4 := Lib.hid h4
  clear h2 h4
  go_enter Try.func9, Try.ntmps9
  go_wp2_with (first | (go_at_call 19; refine (rowsOf_no L _ H2.out H4.out).mono ?_; rintro e w' ⟨rfl, rfl⟩) | (go_at_call 10; refine (at_any _ _ _).mono ?_; rintro e w' ⟨rfl, rfl⟩))
  exact bodyPost_ret (v := .agg #[.int .i64 4, .int .i64 (-1)]) (by simp [results, Try.results9, go_sem]) rfl ⟨4, -1, rfl, rfl, (((Below.refl _ _).alloc (Nat.le_refl _) _).alloc (by simp) _).alloc (by simp; omega) _⟩

/-- A grid that can be drawn. -/
def GridOk (L R C : Int) (n : Nat) (zs : List Int) : Prop := LvOk L R ∧ C = 58 ∧ (n : Int) = R * 58 ∧ ∀ k, k < n → zs.getD k 0 < L

theorem gridFault_bad (A : Option Addr) (n c : Nat) (zs : List Int) (L R C : Int) (w : World) (hr : Row w w.heap.size A n c zs) (h : ¬ GridOk L R C n zs) :
    Calls Try.prog 9 #[.agg #[.int .i64 L, .int .i64 R, .int .i64 C, .slice A n c]] w (Bad w) := by
  by_cases hl : ∃ R', LvOk L R'
  · obtain ⟨R', hl⟩ := hl
    by_cases hR : R = R'
    · subst hR
      by_cases hC : C = 58
      · subst hC
        by_cases hn : (n : Int) = R * 58
        · by_cases hall : ∀ k, k < n → zs.getD k 0 < L
          · exact absurd ⟨hl, rfl, hn, hall⟩ h
          · obtain ⟨j, hj⟩ : ∃ j, j < n ∧ L ≤ zs.getD j 0 := by
              simp only [Classical.not_forall] at hall
              obtain ⟨j, hj, hk⟩ := hall
              exact ⟨j, hj, by omega⟩
            exact gridFault_cells A n c zs L R w hr hl hn j hj.1 hj.2
        · exact gridFault_len A n c L R w hl (by simp [bne_iff_ne]; exact hn)
      · exact gridFault_columns A n c L R C w hl (by simp [bne_iff_ne]; exact hC)
    · exact gridFault_rows A n c L R R' C w hl (by simp [bne_iff_ne]; exact hR)
  · refine gridFault_levels A n c L R C w ?_ ?_
    · simp only [beq_eq_false_iff_ne]
      intro e
      exact hl ⟨85, .inl ⟨e, rfl⟩⟩
    · simp only [beq_eq_false_iff_ne]
      intro e
      exact hl ⟨53, .inr ⟨e, rfl⟩⟩

theorem validate_ok (A : Option Addr) (n c : Nat) (zs : List Int) (L R : Int) (w : World) (hr : Row w w.heap.size A n c zs) (hL : LvOk L R) (hn : (n : Int) = R * 58) (hall : ∀ k, k < n → zs.getD k 0 < L) :
    Calls Try.prog 12 #[.agg #[.int .i64 L, .int .i64 R, .int .i64 58, .slice A n c]] w fun e w' => e = .returned (.agg #[.int .i64 0, .int .i64 0]) ∧ Below w.heap.size w w' := by
  have hR0 : 0 < R := by rcases hL with ⟨_, h⟩ | ⟨_, h⟩ <;> omega
  have hR1 : R ≤ 85 := by rcases hL with ⟨_, h⟩ | ⟨_, h⟩ <;> omega
  have hnn : ((n : Int) != R * 58) = false := by simp [hn]
  have HL := Lib.hid hL
  have HA := Lib.hid hall
  have HR := Lib.hid hr
  clear hall hr hL hn
  go_enter Try.func12, Try.ntmps12
  go_wp2_with (go_at_call 21; refine (validLevels_ok L R _ HL.out).mono ?_; rintro e w' ⟨rfl, rfl⟩)
  go_quiet ((go_at_call 23; exact Calls.quiet_of_same ((rows_ok L R _ HL.out).mono fun _ _ ⟨h, h'⟩ => ⟨h, h'.symm⟩)))
  go_wp2_with fail
  refine (tooHigh_ok A n c zs L _ ((((HR.out.alloc (Nat.le_refl _) _).alloc (by simp) _).drewN _).more (by simp; omega)) HA.out).mono ?_
  rintro e w1 ⟨rfl, rfl⟩
  go_wp2
  exact bodyPost_ret (v := .agg #[.int .i64 0, .int .i64 0]) (by simp [results, Try.results12, go_sem]) rfl ⟨rfl, (((below_draws (((Below.refl _ _).alloc (Nat.le_refl _) _).alloc (by simp) _) nq).setCell (by simp) _).setCell (by simp) _).alloc (by simp; omega) _⟩

theorem drawFault_ok (A : Option Addr) (n c : Nat) (zs : List Int) (L R S X Y : Int) (w : World) (hr : Row w w.heap.size A n c zs) (hL : LvOk L R) (hn : (n : Int) = R * 58) (hall : ∀ k, k < n → zs.getD k 0 < L)
    (hS0 : 3 ≤ S) (hS1 : S ≤ 6) (hX0 : 2 ≤ X) (hX1 : X ≤ 40) (hY0 : 2 ≤ Y) (hY1 : Y ≤ 40) :
    Calls Try.prog 4 #[.agg #[.int .i64 L, .int .i64 R, .int .i64 58, .slice A n c], .int .i64 S, .int .i64 X, .int .i64 Y] w fun e w' => e = .returned (.agg #[.int .i64 0, .int .i64 0]) ∧ Below w.heap.size w w' := by
  have HL := Lib.hid hL
  have HN := Lib.hid hn
  have HA := Lib.hid hall
  have HR := Lib.hid hr
  clear hall hr hL hn
  go_enter Try.func4, Try.ntmps4
  go_wp2_with fail
  refine (gridFault_ok A n c zs L R _ (((HR.out.alloc (Nat.le_refl _) _).alloc (by simp) _).more (by simp; omega)) HL.out HN.out HA.out).mono ?_
  rintro e w1 ⟨rfl, hb⟩
  obtain ⟨hc, hf⟩ := bcell hb
  have hz : w.heap.size + 1 < w1.heap.size := by have := hb.size; simp at this; omega
  have hz1 : w.heap.size + 1 < w1.heap.size + 1 := by omega
  go_wp2_with (first | (go_at_call 7; refine (in_yes _ _ _ _ (by omega) (by omega)).mono ?_; rintro e w' ⟨rfl, rfl⟩) | (go_at_call 10; refine (at_any _ _ _).mono ?_; rintro e w' ⟨rfl, rfl⟩))
  exact bodyPost_ret (v := .agg #[.int .i64 0, .int .i64 0]) (by simp [results, Try.results4, go_sem, hc, hz, hz1]) rfl ⟨rfl, (((((((Below.refl _ _).alloc (Nat.le_refl _) _).alloc (by simp) _).trans (hb.mono (by simp; omega))).setCell (by simp) _).setCell (by simp) _).alloc (by simp; omega) _).alloc (by simp; omega) _⟩

theorem drawFault_scale (A : Option Addr) (n c : Nat) (zs : List Int) (L R S X Y : Int) (w : World) (hr : Row w w.heap.size A n c zs) (hL : LvOk L R) (hn : (n : Int) = R * 58) (hall : ∀ k, k < n → zs.getD k 0 < L)
    (hS : S < 3 ∨ 6 < S) :
    Calls Try.prog 4 #[.agg #[.int .i64 L, .int .i64 R, .int .i64 58, .slice A n c], .int .i64 S, .int .i64 X, .int .i64 Y] w (Bad w) := by
  have HL := Lib.hid hL
  have HN := Lib.hid hn
  have HA := Lib.hid hall
  have HR := Lib.hid hr
  clear hall hr hL hn
  go_enter Try.func4, Try.ntmps4
  go_wp2_with fail
  refine (gridFault_ok A n c zs L R _ (((HR.out.alloc (Nat.le_refl _) _).alloc (by simp) _).more (by simp; omega)) HL.out HN.out HA.out).mono ?_
  rintro e w1 ⟨rfl, hb⟩
  obtain ⟨hc, hf⟩ := bcell hb
  have hz : w.heap.size + 1 < w1.heap.size := by have := hb.size; simp at this; omega
  have hz1 : w.heap.size + 1 < w1.heap.size + 1 := by omega
  go_wp2_with (first | (go_at_call 7; refine (in_no _ _ _ _ hS).mono ?_; rintro e w' ⟨rfl, rfl⟩) | (go_at_call 10; refine (at_any _ _ _).mono ?_; rintro e w' ⟨rfl, rfl⟩))
  exact bodyPost_ret (v := .agg #[.int .i64 4, .int .i64 (-2)]) (by simp [results, Try.results4, go_sem, hc, hz, hz1]) rfl ⟨4, -2, rfl, rfl, (((((((Below.refl _ _).alloc (Nat.le_refl _) _).alloc (by simp) _).trans (hb.mono (by simp; omega))).setCell (by simp) _).setCell (by simp) _).alloc (by simp; omega) _).alloc (by simp; omega) _⟩

theorem drawFault_left (A : Option Addr) (n c : Nat) (zs : List Int) (L R S X Y : Int) (w : World) (hr : Row w w.heap.size A n c zs) (hL : LvOk L R) (hn : (n : Int) = R * 58) (hall : ∀ k, k < n → zs.getD k 0 < L)
    (hS0 : 3 ≤ S) (hS1 : S ≤ 6) (hX : X < 2 ∨ 40 < X) :
    Calls Try.prog 4 #[.agg #[.int .i64 L, .int .i64 R, .int .i64 58, .slice A n c], .int .i64 S, .int .i64 X, .int .i64 Y] w (Bad w) := by
  have HL := Lib.hid hL
  have HN := Lib.hid hn
  have HA := Lib.hid hall
  have HR := Lib.hid hr
  clear hall hr hL hn
  go_enter Try.func4, Try.ntmps4
  go_wp2_with fail
  refine (gridFault_ok A n c zs L R _ (((HR.out.alloc (Nat.le_refl _) _).alloc (by simp) _).more (by simp; omega)) HL.out HN.out HA.out).mono ?_
  rintro e w1 ⟨rfl, hb⟩
  obtain ⟨hc, hf⟩ := bcell hb
  have hz : w.heap.size + 1 < w1.heap.size := by have := hb.size; simp at this; omega
  have hz1 : w.heap.size + 1 < w1.heap.size + 1 := by omega
  go_wp2_with fail
  refine (in_yes _ _ _ _ (by omega) (by omega)).mono ?_; rintro e w' ⟨rfl, rfl⟩
  go_wp2_with (first | (go_at_call 7; refine (in_no _ _ _ _ hX).mono ?_; rintro e w' ⟨rfl, rfl⟩) | (go_at_call 10; refine (at_any _ _ _).mono ?_; rintro e w' ⟨rfl, rfl⟩))
  exact bodyPost_ret (v := .agg #[.int .i64 4, .int .i64 (-3)]) (by simp [results, Try.results4, go_sem, hc, hz, hz1]) rfl ⟨4, -3, rfl, rfl, (((((((Below.refl _ _).alloc (Nat.le_refl _) _).alloc (by simp) _).trans (hb.mono (by simp; omega))).setCell (by simp) _).setCell (by simp) _).alloc (by simp; omega) _).alloc (by simp; omega) _⟩

theorem drawFault_top (A : Option Addr) (n c : Nat) (zs : List Int) (L R S X Y : Int) (w : World) (hr : Row w w.heap.size A n c zs) (hL : LvOk L R) (hn : (n : Int) = R * 58) (hall : ∀ k, k < n → zs.getD k 0 < L)
    (hS0 : 3 ≤ S) (hS1 : S ≤ 6) (hX0 : 2 ≤ X) (hX1 : X ≤ 40) (hY : Y < 2 ∨ 40 < Y) :
    Calls Try.prog 4 #[.agg #[.int .i64 L, .int .i64 R, .int .i64 58, .slice A n c], .int .i64 S, .int .i64 X, .int .i64 Y] w (Bad w) := by
  have HL := Lib.hid hL
  have HN := Lib.hid hn
  have HA := Lib.hid hall
  have HR := Lib.hid hr
  clear hall hr hL hn
  go_enter Try.func4, Try.ntmps4
  go_wp2_with fail
  refine (gridFault_ok A n c zs L R _ (((HR.out.alloc (Nat.le_refl _) _).alloc (by simp) _).more (by simp; omega)) HL.out HN.out HA.out).mono ?_
  rintro e w1 ⟨rfl, hb⟩
  obtain ⟨hc, hf⟩ := bcell hb
  have hz : w.heap.size + 1 < w1.heap.size := by have := hb.size; simp at this; omega
  have hz1 : w.heap.size + 1 < w1.heap.size + 1 := by omega
  go_wp2_with fail
  refine (in_yes _ _ _ _ (by omega) (by omega)).mono ?_; rintro e w' ⟨rfl, rfl⟩
  go_wp2_with fail
  refine (in_yes _ _ _ _ (by omega) (by omega)).mono ?_; rintro e w' ⟨rfl, rfl⟩
  go_wp2_with (first | (go_at_call 7; refine (in_no _ _ _ _ hY).mono ?_; rintro e w' ⟨rfl, rfl⟩) | (go_at_call 10; refine (at_any _ _ _).mono ?_; rintro e w' ⟨rfl, rfl⟩))
  exact bodyPost_ret (v := .agg #[.int .i64 4, .int .i64 (-4)]) (by simp [results, Try.results4, go_sem, hc, hz, hz1]) rfl ⟨4, -4, rfl, rfl, (((((((Below.refl _ _).alloc (Nat.le_refl _) _).alloc (by simp) _).trans (hb.mono (by simp; omega))).setCell (by simp) _).setCell (by simp) _).alloc (by simp; omega) _).alloc (by simp; omega) _⟩

theorem drawFault_grid (A : Option Addr) (n c : Nat) (zs : List Int) (L R C S X Y : Int) (w : World) (hr : Row w w.heap.size A n c zs) (h : ¬ GridOk L R C n zs) :
    Calls Try.prog 4 #[.agg #[.int .i64 L, .int .i64 R, .int .i64 C, .slice A n c], .int .i64 S, .int .i64 X, .int .i64 Y] w (Bad w) := by
  have HG := Lib.hid h
  have HR := Lib.hid hr
  clear h hr
  go_enter Try.func4, Try.ntmps4
  go_wp2_with fail
  refine (gridFault_bad A n c zs L R C _ (((HR.out.alloc (Nat.le_refl _) _).alloc (by simp) _).more (by simp; omega)) HG.out).mono ?_
  rintro e w1 ⟨cd, ix, hcd, rfl, hb⟩
  obtain ⟨hc, hf⟩ := bcell hb
  have hz : w.heap.size + 1 < w1.heap.size := by have := hb.size; simp at this; omega
  have hz1 : w.heap.size + 1 < w1.heap.size + 1 := by omega
  go_wp2
  exact bodyPost_ret (v := .agg #[.int .i64 cd, .int .i64 ix]) (by simp [results, Try.results4, go_sem, hc, hz]) rfl ⟨cd, ix, hcd, rfl, ((((((Below.refl _ _).alloc (Nat.le_refl _) _).alloc (by simp) _).trans (hb.mono (by simp; omega))).setCell (by simp) _).setCell (by simp) _).alloc (by simp; omega) _⟩

/-- What DrawFault lets by. -/
def DrawOk (L R C S X Y : Int) (n : Nat) (zs : List Int) : Prop := GridOk L R C n zs ∧ (3 ≤ S ∧ S ≤ 6) ∧ (2 ≤ X ∧ X ≤ 40) ∧ (2 ≤ Y ∧ Y ≤ 40)

theorem drawFault_bad (A : Option Addr) (n c : Nat) (zs : List Int) (L R C S X Y : Int) (w : World) (hr : Row w w.heap.size A n c zs) (h : ¬ DrawOk L R C S X Y n zs) :
    Calls Try.prog 4 #[.agg #[.int .i64 L, .int .i64 R, .int .i64 C, .slice A n c], .int .i64 S, .int .i64 X, .int .i64 Y] w (Bad w) := by
  by_cases hg : GridOk L R C n zs
  · obtain ⟨hl, rfl, hn, hall⟩ := hg
    by_cases hS : 3 ≤ S ∧ S ≤ 6
    · by_cases hX : 2 ≤ X ∧ X ≤ 40
      · by_cases hY : 2 ≤ Y ∧ Y ≤ 40
        · exact absurd ⟨⟨hl, rfl, hn, hall⟩, hS, hX, hY⟩ h
        · exact drawFault_top A n c zs L R S X Y w hr hl hn hall hS.1 hS.2 hX.1 hX.2 (by omega)
      · exact drawFault_left A n c zs L R S X Y w hr hl hn hall hS.1 hS.2 (by omega)
    · exact drawFault_scale A n c zs L R S X Y w hr hl hn hall (by omega)
  · exact drawFault_grid A n c zs L R C S X Y w hr hg
end Go.Proofs.Ytogcfcdneadocaa
