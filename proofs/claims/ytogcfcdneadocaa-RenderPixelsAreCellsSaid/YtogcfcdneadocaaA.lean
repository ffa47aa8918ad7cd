/-
  Contracts of the small functions that RenderPixelsAreCells reaches: In, At, the three faults, tint.shade, RowsOf, validLevels, rows, margin, tint.check, tint.Shade. No condition but the ranges that each contract names.
-/
import Derived.Test.YtogcfcdneadocaaRows
import Derived.WalkKit
import Derived.WalkLawsBesides
import Derived.WalkSpells
import Derived.Deep.QuietTactic
import Derived.BigQuiet
import Derived.RegionTactic
import Derived.Deep.RegionHeld3
import Derived.Lib.Hide
import Derived.IntWalk
namespace Go.Proofs.Ytogcfcdneadocaa
open Go.RowKit

theorem in_yes (n lo hi : Int) (w : World) (h1 : lo ≤ n) (h2 : n ≤ hi) :
    Calls Try.prog 7 #[.int .i64 n, .int .i64 lo, .int .i64 hi] w fun e w' => e = .returned (.bool true) ∧ w = w' := by
  go_enter Try.func7, Try.ntmps7
  go_wp2
  go_ret
  exact ⟨rfl, rfl⟩

theorem in_no (n lo hi : Int) (w : World) (h : n < lo ∨ hi < n) :
    Calls Try.prog 7 #[.int .i64 n, .int .i64 lo, .int .i64 hi] w fun e w' => e = .returned (.bool false) ∧ w = w' := by
  by_cases h1 : lo ≤ n
  · have h2 : ¬ n ≤ hi := by omega
    clear h
    go_enter Try.func7, Try.ntmps7
    go_wp2
    go_ret
    exact ⟨rfl, rfl⟩
  · clear h
    go_enter Try.func7, Try.ntmps7
    go_wp2
    go_ret
    exact ⟨rfl, rfl⟩

theorem at_any (c i : Int) (w : World) :
    Calls Try.prog 10 #[.int .i64 c, .int .i64 i] w fun e w' => e = .returned (.agg #[.int .i64 c, .int .i64 i]) ∧ w.alloc (.cells #[.int .i64 c, .int .i64 i] 26) = w' := by
  go_enter Try.func10, Try.ntmps10
  go_wp2
  exact bodyPost_ret (v := .agg #[.int .i64 c, .int .i64 i]) (by simp [results, Try.results10, go_sem]) rfl ⟨rfl, rfl⟩

theorem rfault_any (c i : Int) (w : World) :
    Calls Try.prog 14 #[.int .i64 c, .int .i64 i] w fun e w' => e = .returned (.agg #[.int .i64 c, .int .i64 i]) ∧ w.alloc (.cells #[.int .i64 c, .int .i64 i] 26) = w' := by
  go_enter Try.func14, Try.ntmps14
  go_wp2
  exact bodyPost_ret (v := .agg #[.int .i64 c, .int .i64 i]) (by simp [results, Try.results14, go_sem]) rfl ⟨rfl, rfl⟩

theorem tfault_any (c i : Int) (w : World) :
    Calls Try.prog 17 #[.int .i64 c, .int .i64 i] w fun e w' => e = .returned (.agg #[.int .i64 c, .int .i64 i]) ∧ w.alloc (.cells #[.int .i64 c, .int .i64 i] 26) = w' := by
  go_enter Try.func17, Try.ntmps17
  go_wp2
  exact bodyPost_ret (v := .agg #[.int .i64 c, .int .i64 i]) (by simp [results, Try.results17, go_sem]) rfl ⟨rfl, rfl⟩

theorem pfault_any (c i : Int) (w : World) :
    Calls Try.prog 22 #[.int .i64 c, .int .i64 i] w fun e w' => e = .returned (.agg #[.int .i64 c, .int .i64 i]) ∧ w.alloc (.cells #[.int .i64 c, .int .i64 i] 26) = w' := by
  go_enter Try.func22, Try.ntmps22
  go_wp2
  exact bodyPost_ret (v := .agg #[.int .i64 c, .int .i64 i]) (by simp [results, Try.results22, go_sem]) rfl ⟨rfl, rfl⟩

/-- The two kinds of pages: 2 levels and 85 rows, 4 levels and 53 rows. -/
def LvOk (L R : Int) : Prop := (L = 2 ∧ R = 85) ∨ (L = 4 ∧ R = 53)

/-- The shade of a level. -/
def shadeOf (l L : Int) : Int := 255 * (L - 1 - l) / (L - 1)

theorem shade_any (l L : Int) (w : World) (h0 : 0 ≤ l) (h1 : l < L) (h2 : 2 ≤ L) (h3 : L ≤ 4) :
    Calls Try.prog 18 #[.int .i64 l, .int .i64 L] w fun e w' => e = .returned (.int .i64 (shadeOf l L)) ∧ w = w' := by
  go_enter Try.func18, Try.ntmps18
  go_wp2
  go_ret
  exact ⟨rfl, rfl⟩

theorem rowsOf_ok (L R : Int) (w : World) (h : LvOk L R) :
    Calls Try.prog 19 #[.int .i64 L] w fun e w' => e = .returned (.int .i64 R) ∧ w = w' := by
  rcases h with ⟨rfl, rfl⟩ | ⟨rfl, rfl⟩
  · go_enter Try.func19, Try.ntmps19
    go_wp2
    go_ret
    exact ⟨rfl, rfl⟩
  · go_enter Try.func19, Try.ntmps19
    go_wp2
    go_ret
    exact ⟨rfl, rfl⟩

theorem rowsOf_no (L : Int) (w : World) (h2 : (L == 2) = false) (h4 : (L == 4) = false) :
    Calls Try.prog 19 #[.int .i64 L] w fun e w' => e = .returned (.int .i64 0) ∧ w = w' := by
  go_enter Try.func19, Try.ntmps19
  go_wp2
  go_ret
  exact ⟨rfl, rfl⟩

theorem validLevels_ok (L R : Int) (w : World) (h : LvOk L R) :
    Calls Try.prog 21 #[.int .i64 L] w fun e w' => e = .returned (.bool true) ∧ w = w' := by
  rcases h with ⟨rfl, rfl⟩ | ⟨rfl, rfl⟩
  · go_enter Try.func21, Try.ntmps21
    go_wp2
    go_ret
    exact ⟨rfl, rfl⟩
  · go_enter Try.func21, Try.ntmps21
    go_wp2
    go_ret
    exact ⟨rfl, rfl⟩

theorem rows_ok (L R : Int) (w : World) (h : LvOk L R) :
    Calls Try.prog 23 #[.int .i64 L] w fun e w' => e = .returned (.int .i64 R) ∧ w = w' := by
  rcases h with ⟨rfl, rfl⟩ | ⟨rfl, rfl⟩
  · go_enter Try.func23, Try.ntmps23
    go_wp2
    go_ret
    exact ⟨rfl, rfl⟩
  · go_enter Try.func23, Try.ntmps23
    go_wp2
    go_ret
    exact ⟨rfl, rfl⟩

theorem margin_ok (n : Int) (w : World) (h0 : 2 ≤ n) (h1 : n ≤ 40) :
    Calls Try.prog 13 #[.int .i64 n] w fun e w' => e = .returned (.bool true) ∧ w = w' := by
  go_enter Try.func13, Try.ntmps13
  go_wp2
  go_ret
  exact ⟨rfl, rfl⟩

theorem check_ok (L R : Int) (w : World) (h : LvOk L R) :
    Calls Try.prog 16 #[.int .i64 L] w fun e w' => e = .returned (.agg #[.int .i64 0, .int .i64 0]) ∧ w.alloc (.cells #[.int .i64 0, .int .i64 0] 26) = w' := by
  rcases h with ⟨rfl, rfl⟩ | ⟨rfl, rfl⟩
  · go_enter Try.func16, Try.ntmps16
    go_wp2
    exact bodyPost_ret (v := .agg #[.int .i64 0, .int .i64 0]) (by simp [results, Try.results16, go_sem]) rfl ⟨rfl, rfl⟩
  · go_enter Try.func16, Try.ntmps16
    go_wp2
    exact bodyPost_ret (v := .agg #[.int .i64 0, .int .i64 0]) (by simp [results, Try.results16, go_sem]) rfl ⟨rfl, rfl⟩

theorem tintShade_ok (l L R : Int) (w : World) (h : LvOk L R) (h0 : 0 ≤ l) (h1 : l < L) :
    Calls Try.prog 8 #[.int .i64 l, .int .i64 L] w fun e w' => e = .returned (.tuple #[.int .i64 (shadeOf l L), .agg #[.int .i64 0, .int .i64 0]]) ∧ ((w.alloc (.cells #[.int .i64 0, .int .i64 0] 26)).alloc (.cells #[.int .i64 0, .int .i64 0] 26)).alloc (.cells #[.int .i64 0, .int .i64 0] 26) = w' := by
  have h2 : 2 ≤ L := by rcases h with ⟨h, _⟩ | ⟨h, _⟩ <;> omega
  have h3 : L ≤ 4 := by rcases h with ⟨h, _⟩ | ⟨h, _⟩ <;> omega
  have H := Lib.hid h
  clear h
  go_enter Try.func8, Try.ntmps8
  go_wp2_with (first | (go_at_call 16; refine (check_ok _ _ _ H.out).mono ?_; rintro e w' ⟨rfl, rfl⟩) | (go_at_call 18; refine (shade_any _ _ _ h0 h1 h2 h3).mono ?_; rintro e w' ⟨rfl, rfl⟩))
  exact bodyPost_ret (v := .tuple #[.int .i64 (shadeOf l L), .agg #[.int .i64 0, .int .i64 0]]) (by simp [results, Try.results8, go_sem]) rfl ⟨rfl, rfl⟩

end Go.Proofs.Ytogcfcdneadocaa
