/-
  The law RenderPixelsAreCells holds: for every page, scale, margins and place, the call returns true and its arguments read afterwards as they did. No condition.
-/
import Derived.Test.YtogcfcdneadocaaM
import Derived.ProofKit
import Derived.OpenShut
import Derived.ChangeOld
import Derived.Lib.SmallJoins
namespace Go.Proofs.Ytogcfcdneadocaa
open Go.ChangeShapes Go.WideShapes Go.ChangeAt Go.RowKit Go.Joins

theorem law_any (A : Option Addr) (n c : Nat) (zs : List Int) (L R C S X Y x y : Int) (w : World) (hr : Row w w.heap.size A n c zs) :
    Calls Try.prog 3 #[.agg #[.int .i64 L, .int .i64 R, .int .i64 C, .slice A n c], .int .i64 S, .int .i64 X, .int .i64 Y, .int .i64 x, .int .i64 y] w fun e w' => e = .returned (.bool true) ∧ Below w.heap.size w w' := by
  by_cases h : DrawOk L R C S X Y n zs
  · obtain ⟨⟨hL, rfl, hn, hall⟩, ⟨hS0, hS1⟩, ⟨hX0, hX1⟩, hY0, hY1⟩ := h
    by_cases hx : 0 ≤ x ∧ x ≤ 58 * S + 2 * X - 1
    · by_cases hy : 0 ≤ y ∧ y ≤ R * S + 2 * Y - 1
      · by_cases hx2 : X ≤ x ∧ x ≤ X + 58 * S - 1
        · by_cases hy2 : Y ≤ y ∧ y ≤ Y + R * S - 1
          · exact law_shade A n c zs L R S X Y x y w hr hL hn hall hS0 hS1 hX0 hX1 hY0 hY1 hx.1 hx.2 hy.1 hy.2 hx2.1 hx2.2 hy2.1 hy2.2
          · exact law_white_y A n c zs L R S X Y x y w hr hL hn hall hS0 hS1 hX0 hX1 hY0 hY1 hx.1 hx.2 hy.1 hy.2 hx2.1 hx2.2 (by omega)
        · exact law_white_x A n c zs L R S X Y x y w hr hL hn hall hS0 hS1 hX0 hX1 hY0 hY1 hx.1 hx.2 hy.1 hy.2 (by omega)
      · exact law_y A n c zs L R S X Y x y w hr hL hn hall hS0 hS1 hX0 hX1 hY0 hY1 hx.1 hx.2 (by omega)
    · exact law_x A n c zs L R S X Y x y w hr hL hn hall hS0 hS1 hX0 hX1 hY0 hY1 (by omega)
  · exact law_bad A n c zs L R C S X Y x y w hr h

theorem own : ownKnob Try.prog.godebug = none := by kernel_rfl
theorem laidOut : laidOutB Try.prog = true := by kernel_rfl
theorem cells24 : Try.prog.cellsOf 24 = 4 := by kernel_rfl

theorem range_u8' {z : Int} (h : (Lit.int .u8 z).wf = true) : 0 ≤ z ∧ z ≤ 255 := by
  simp [Lit.wf] at h
  exact h

/-- A slice of bytes that came in reads as a list. -/
theorem row_of {H : Type} {enc : TypeId × Value → H} {W : World} {fuel : Nat} {v : Value} {y : DataW H × List MemPlace}
    (h : DataW.trod enc Try.prog W 0 (fun _ => true) true fuel 22 [v] = some y) : ∃ (A : Option Addr) (n c : Nat) (zs : List Int), v = .slice A n c ∧ Row W W.heap.size A n c zs := by
  rcases open_ints Try.underlying22 Try.underlying5 (by kernel_rfl) h with ⟨hcs, _⟩ | ⟨a, l, c, zs, hcs, _, hl, hm, hz, _, hcell, hwz⟩
  · simp at hcs
    subst hcs
    exact ⟨none, 0, 0, [], rfl, rfl, Nat.le_refl _, Nat.zero_le _, by simp, fun h => absurd h (by omega)⟩
  · simp at hcs
    subst hcs
    simp only [if_true] at hz
    refine ⟨some a, l, c, zs.take l, rfl, by simp; omega, hl, hm, fun z hz => range_u8' (hwz z (List.mem_of_mem_take hz)), fun h0 => ?_⟩
    obtain ⟨b, off, spot⟩ := a
    have hc := hcell 0 (by omega)
    have hspot : spot = none := by simpa [Addr.add] using World.cell?_spot hc
    subst hspot
    refine ⟨b, off, rfl, by have := World.block_lt_of_cell? W _ hc; simpa [Addr.add] using this, fun k hk => ?_⟩
    have hk' := hcell k (by omega)
    have e : (⟨b, off, none⟩ : Addr).add k = ⟨b, off + k, none⟩ := by
      unfold Addr.add
      split
      · rename_i h; subst h; rfl
      · rfl
    rw [e] at hk'
    rw [hk']
    simp [List.getD, hk]

set_option maxRecDepth 100000 in
theorem lifted (os : Os) (started : os.Started) (H : Type) (enc : TypeId × Value → H) :
    ReturnsInHanded {} Try.checked os 3 .any (Rows.renderPixelsAreCellsSpec.pre6 enc Try.prog Try.f3 Rows.renderPixelsAreCellsRow.domain false) (Rows.renderPixelsAreCellsSpec.post enc Try.prog Try.f3 false true false false) := by
  refine returnsInHanded_of_change (C := Try.checked) own started (by kernel_rfl) Try.func3
    (ChangeSpec.witness6 (enc := enc) (C := Try.checked) false ⟨#[], #[.agg #[.int .i64 0, .int .i64 0, .int .i64 0, .slice none 0 0], .int .i64 0, .int .i64 0, .int .i64 0, .int .i64 0, .int .i64 0], []⟩ 8 (by kernel_rfl) (by kernel_rfl) (by kernel_rfl) (by kernel_rfl)) ?_
  intro W base args ds gs before hval0 hW hcnd _
  have hval : ∀ (j : Nat) t v, Try.f3.params[j]? = some t → args[j]? = some v → Value.okWide Try.prog W .any base t v := hval0
  have hW' := hW
  obtain ⟨p, q, hA0, hV, rfl, hfz, hnd⟩ := hW
  have hA : DataW.TrodAll enc Try.prog W 0 (fun _ => true) true Try.f3.params.toList args.toList ds p := hA0
  rw [Try.params3] at hA hval
  obtain ⟨v0, vs0, d0, ds0, p0, q0, hargs, rfl, rfl, h0, r0⟩ := trodAll_cons hA
  obtain ⟨v1, vs1, d1, ds1, p1, q1, rfl, rfl, rfl, h1, r1⟩ := trodAll_cons r0
  obtain ⟨v2, vs2, d2, ds2, p2, q2, rfl, rfl, rfl, h2, r2⟩ := trodAll_cons r1
  obtain ⟨v3, vs3, d3, ds3, p3, q3, rfl, rfl, rfl, h3, r3⟩ := trodAll_cons r2
  obtain ⟨v4, vs4, d4, ds4, p4, q4, rfl, rfl, rfl, h4, r4⟩ := trodAll_cons r3
  obtain ⟨v5, vs5, d5, ds5, p5, q5, rfl, rfl, rfl, h5, r5⟩ := trodAll_cons r4
  obtain ⟨rfl, rfl, rfl⟩ := trodAll_nil r5
  obtain rfl : args = #[v0, v1, v2, v3, v4, v5] := by cases args; simp_all
  obtain ⟨rfl, rfl⟩ := trodVars_none hV
  have k0 := h0
  have lt0 : ∀ x ∈ p0, x.block < W.heap.size := by obtain ⟨m, hm⟩ := k0; exact DataW.trod_lt m _ _ _ hm
  obtain ⟨a1, rfl, rfl, rfl, w1⟩ := open_int Try.underlying3 (hval 1 3 v1 rfl rfl) h1
  obtain ⟨a2, rfl, rfl, rfl, w2⟩ := open_int Try.underlying3 (hval 2 3 v2 rfl rfl) h2
  obtain ⟨a3, rfl, rfl, rfl, w3⟩ := open_int Try.underlying3 (hval 3 3 v3 rfl rfl) h3
  obtain ⟨a4, rfl, rfl, rfl, w4⟩ := open_int Try.underlying3 (hval 4 3 v4 rfl rfl) h4
  obtain ⟨a5, rfl, rfl, rfl, w5⟩ := open_int Try.underlying3 (hval 5 3 v5 rfl rfl) h5
  obtain ⟨c0, c1, c2, c3, y0, y1, y2, y3, m, rfl, _, _, hy0, hy1, hy2, hy3⟩ := open_agg4 Try.underlying24 (by kernel_rfl) cells24 (hval 0 24 v0 rfl rfl) h0
  obtain ⟨L, e0, _, _⟩ := DataW.trod_int Try.underlying3 hy0
  obtain ⟨R, e1, _, _⟩ := DataW.trod_int Try.underlying3 hy1
  obtain ⟨C, e2, _, _⟩ := DataW.trod_int Try.underlying3 hy2
  simp at e0 e1 e2
  subst e0 e1 e2
  obtain ⟨A, n, c, zs, rfl, hrow⟩ := row_of hy3
  clear hA0 hval0
  refine (law_any A n c zs L R C a1 a2 a3 a4 a5 W hrow).mono fun e W' ⟨he, bel⟩ => ?_
  subst he
  exact ⟨_, rfl, _, _, _, [], _, [], hW', trodAll_mk1 (shut_bool Try.underlying4 _), (trodAll_cons_mk (Below.trod laidOut (by kernel_rfl) (of_decide_eq_true (by kernel_rfl)) k0 bel lt0) (trodAll_cons_mk (shut_int Try.underlying3 w1) (trodAll_cons_mk (shut_int Try.underlying3 w2) (trodAll_cons_mk (shut_int Try.underlying3 w3) (trodAll_cons_mk (shut_int Try.underlying3 w4) (trodAll_cons_mk (shut_int Try.underlying3 w5) trodAll_mk0)))))), rfl, bel.frame _, fun h => by cases h⟩

theorem over : Rows.renderPixelsAreCellsRow.holds Try.pinned (OpenSpec.ofChange Rows.renderPixelsAreCellsSpec) :=
  OpenClaim.holds_of_wide 3 Try.f3 rfl rfl rfl rfl rfl rfl rfl ⟨rfl, rfl, rfl, rfl, rfl⟩ rfl rfl rfl rfl rfl (by kernel_rfl) Try.func3 (by kernel_rfl)
    (of_decide_eq_true (by kernel_rfl)) (by unfold Func.isWrapper; first | (rw [if_pos (by decide +kernel)]; kernel_rfl) | (rw [if_neg (by decide +kernel)]; exact ⟨rfl, rfl⟩))
    (fun os started H enc _ => lifted os started H enc)

theorem renderPixelsAreCells_holds : Rows.RenderPixelsAreCellsSaid := over

#print axioms renderPixelsAreCells_holds
end Go.Proofs.Ytogcfcdneadocaa
