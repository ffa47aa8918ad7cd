/-
  Contracts of tooHigh (with slices.IndexFunc and its closure) and CellsFault. Condition: the slice of bytes reads as a list (Row).
-/
import Derived.Test.YtogcfcdneadocaaA
namespace Go.Proofs.Ytogcfcdneadocaa
open Go.RowKit

/-- A slice of bytes that reads as the list zs, and lies below block B. -/
def Row (w : World) (B : Nat) (A : Option Addr) (n c : Nat) (zs : List Int) : Prop :=
  zs.length = n ∧ n ≤ c ∧ c ≤ maxLen ∧ (∀ z ∈ zs, 0 ≤ z ∧ z ≤ 255) ∧ (0 < n → ∃ b off, A = some ⟨b, off, none⟩ ∧ b < B ∧ ∀ k, k < n → w.cell? ⟨b, off + k, none⟩ = some (.int .u8 (zs.getD k 0)))

theorem Row.keep {w w' : World} {B : Nat} {A : Option Addr} {n c : Nat} {zs : List Int} (h : Row w B A n c zs) (hk : ∀ b o, b < B → w'.cell? ⟨b, o, none⟩ = w.cell? ⟨b, o, none⟩) : Row w' B A n c zs :=
  ⟨h.1, h.2.1, h.2.2.1, h.2.2.2.1, fun hn => by
    obtain ⟨b, off, e, hb, hc⟩ := h.2.2.2.2 hn
    exact ⟨b, off, e, hb, fun k hk' => (hk _ _ hb).trans (hc k hk')⟩⟩

theorem Row.below {w w' : World} {B : Nat} {A : Option Addr} {n c : Nat} {zs : List Int} (h : Row w B A n c zs) (hb : Below B w w') : Row w' B A n c zs :=
  h.keep fun b o hlt => hb.cell (p := ⟨b, o, none⟩) hlt

theorem Row.more {w : World} {B B' : Nat} {A : Option Addr} {n c : Nat} {zs : List Int} (h : Row w B A n c zs) (hB : B ≤ B') : Row w B' A n c zs :=
  ⟨h.1, h.2.1, h.2.2.1, h.2.2.2.1, fun hn => by
    obtain ⟨b, off, e, hb, hc⟩ := h.2.2.2.2 hn
    exact ⟨b, off, e, by omega, hc⟩⟩

theorem Row.alloc {w : World} {B : Nat} {A : Option Addr} {n c : Nat} {zs : List Int} (h : Row w B A n c zs) (hB : B ≤ w.heap.size) (o : Obj) : Row (w.alloc o) B A n c zs :=
  h.keep fun b o' hb => World.cell?_alloc_lt _ _ ⟨b, o', none⟩ (Nat.lt_of_lt_of_le hb hB)

theorem Row.drewN {w : World} {B : Nat} {A : Option Addr} {n c : Nat} {zs : List Int} (h : Row w B A n c zs) (k : Nat) : Row (w.drewN k) B A n c zs := h.keep fun _ _ _ => rfl

theorem Row.range {w : World} {B : Nat} {A : Option Addr} {n c : Nat} {zs : List Int} (h : Row w B A n c zs) (k : Nat) : 0 ≤ zs.getD k 0 ∧ zs.getD k 0 ≤ 255 := by
  by_cases hk : k < zs.length
  · have e : zs.getD k 0 = zs[k] := by simp [List.getD, hk]
    rw [e]; exact h.2.2.2.1 _ (List.getElem_mem hk)
  · have e : zs.getD k 0 = 0 := by simp [List.getD, List.getElem?_eq_none (Nat.le_of_not_lt hk)]
    rw [e]; omega

theorem tooHigh1 (z L : Int) (a : Addr) (w : World) (ha : w.cell? a = some (.int .i64 L)) (h0 : 0 ≤ z) (h1 : z ≤ 255) (h : z < L) :
    Calls Try.prog 27 #[.int .u8 z, .pointer (some a)] w fun e w' => e = .returned (.bool false) ∧ w = w' := by
  have hd : decide (L ≤ z) = false := by simp; omega
  go_enter Try.func27, Try.ntmps27
  go_wp2
  go_ret
  exact ⟨rfl, rfl⟩

theorem indexFunc_ok (A : Option Addr) (n c B : Nat) (zs : List Int) (L : Int) (a : Addr) (w : World) (ha : w.cell? a = some (.int .i64 L)) (hr : Row w B A n c zs) (hall : ∀ k, k < n → zs.getD k 0 < L) :
    Calls Try.prog 26 #[.slice A n c, .func (.func 27) #[] #[.pointer (some a)]] w fun e w' => e = .returned (.int .i64 (-1)) ∧ w = w' := by
  have hn : n ≤ 9223372036854775807 := by have := hr.2.1; have h2 := hr.2.2.1; unfold maxLen at h2; omega
  have HA := Lib.hid hall
  have HR := Lib.hid hr
  clear hall hr
  go_enter Try.func26, Try.ntmps26
  go_wp2
  go_loop [8] (fun i => ∃ k : Nat, k ≤ n ∧ i = .int .i64 k) (fun i => n - (intOf i).toNat)
  case atStart => exact ⟨0, Nat.zero_le _, rfl⟩
  case round =>
    obtain ⟨k, hk, rfl⟩ := hrel
    by_cases hlt : k < n
    · obtain ⟨b, off, rfl, _, hc⟩ := HR.out.2.2.2.2 (by omega)
      have hcell := hc k hlt
      have hz := HR.out.range k
      have hzL := HA.out k hlt
      clear hc
      generalize zs.getD k 0 = z at *
      obtain ⟨hz0, hz1⟩ := hz
      go_wp2_with (go_at_call 27; refine (tooHigh1 z L a _ ha hz0 hz1 hzL).mono ?_; rintro e w' ⟨rfl, rfl⟩)
      go_round
      case rel => exact ⟨k + 1, by omega, by go_num⟩
      case measure => simp [intOf]; omega
    · go_wp2
      go_ret
      exact ⟨rfl, rfl⟩

theorem tooHigh_ok (A : Option Addr) (n c : Nat) (zs : List Int) (L : Int) (w : World) (hr : Row w w.heap.size A n c zs) (hall : ∀ k, k < n → zs.getD k 0 < L) :
    Calls Try.prog 24 #[.slice A n c, .int .i64 L] w fun e w' => e = .returned (.int .i64 (-1)) ∧ w.alloc (.cells #[.int .i64 L] 3) = w' := by
  have HA := Lib.hid hall
  have HR := Lib.hid hr
  clear hall hr
  go_enter Try.func24, Try.ntmps24
  go_wp2_with (go_at_call 26; refine (indexFunc_ok A n c w.heap.size zs L _ _ (by simp) (HR.out.alloc (Nat.le_refl _) _) HA.out).mono ?_; rintro e w' ⟨rfl, rfl⟩)
  go_ret
  exact ⟨rfl, rfl⟩

theorem cellsFault_ok (A : Option Addr) (n c : Nat) (zs : List Int) (L : Int) (w : World) (hr : Row w w.heap.size A n c zs) (hall : ∀ k, k < n → zs.getD k 0 < L) :
    Calls Try.prog 20 #[.slice A n c, .int .i64 L] w fun e w' => e = .returned (.agg #[.int .i64 0, .int .i64 0]) ∧ Below w.heap.size w w' := by
  have hn : n ≤ 9223372036854775807 := by have := hr.2.1; have h2 := hr.2.2.1; unfold maxLen at h2; omega
  have HA := Lib.hid hall
  have HR := Lib.hid hr
  clear hall hr
  go_enter Try.func20, Try.ntmps20
  go_wp2
  go_loop [5] (fun i => ∃ k : Nat, k ≤ n ∧ i = .int .i64 k) (fun i => n - (intOf i).toNat)
  case atStart => exact ⟨0, Nat.zero_le _, rfl⟩
  case round =>
    obtain ⟨k, hk, rfl⟩ := hrel
    by_cases hlt : k < n
    · obtain ⟨b, off, rfl, hb, hc⟩ := HR.out.2.2.2.2 (by omega)
      have hcell := hc k hlt
      have hz := HR.out.range k
      have hzL := HA.out k hlt
      clear hc
      generalize zs.getD k 0 = z at *
      obtain ⟨hz0, hz1⟩ := hz
      go_wp2
      go_round
      case rel => exact ⟨k + 1, by omega, by go_num⟩
      case measure => simp [intOf]; omega
    · go_wp2_with (go_at_call 10; refine (at_any _ _ _).mono ?_; rintro e w' ⟨rfl, rfl⟩)
      exact bodyPost_ret (v := .agg #[.int .i64 0, .int .i64 0]) (by simp [results, Try.results20, go_sem]) rfl ⟨rfl, ((Below.refl _ _).alloc (Nat.le_refl _) _).alloc (by simp) _⟩
end Go.Proofs.Ytogcfcdneadocaa
