/-
  What render.Draw's memory looks like while its loops run: the blocks of its own, known whole. No condition.
-/
import Derived.Test.YtogcfcdneadocaaP
namespace Go.Proofs.Ytogcfcdneadocaa
open Go.RowKit

/-- The blocks of Draw: the page at block B = w0.heap.size, the two results behind it, the image at block O, the pixels at block Px. -/
structure Inv (w0 : World) (O Px : Nat) (gr im : Array Value) (cs : List Value) (wr : World) : Prop where
  bel : Below w0.heap.size w0 wr
  page : wr.heap[w0.heap.size]? = some (.cells gr 24 (0, 0))
  res1 : wr.heap[w0.heap.size + 1]? = some (.cells #[.int .i64 0, .int .i64 0, .slice none 0 0] 30 (0, 0))
  res2 : wr.heap[w0.heap.size + 1 + 1]? = some (.cells #[.int .i64 0, .int .i64 0] 26 (0, 0))
  image : wr.heap[O]? = some (.cells im 30 (0, 0))
  pixels : wr.heap[Px]? = some (.cells cs.toArray 5 (0, 0))

theorem size_of_block {w : World} {g : Nat} {o : Obj} (h : w.heap[g]? = some o) : g < w.heap.size := by
  rcases Nat.lt_or_ge g w.heap.size with hlt | hge
  · exact hlt
  · rw [Array.getElem?_eq_none hge] at h; cases h

theorem heap_new (w : World) (o : Obj) (g : Nat) (hg : g = w.heap.size) : (w.alloc o).heap[g]? = some o := by
  subst hg
  exact heap_alloc_new w o
theorem heap_old {w : World} {g : Nat} {v : Option Obj} (o : Obj) (hg : g < w.heap.size) (h : w.heap[g]? = v) : (w.alloc o).heap[g]? = v := (Below.heap_alloc w o g hg).trans h

theorem keep_alloc {w : World} {p : Addr} {v : Value} {o : Obj} (h : w.cell? p = some v) : (w.alloc o).cell? p = some v := (World.cell?_alloc_lt _ _ _ (World.block_lt_of_cell? w p h)).trans h
theorem keep_drew {w : World} {p : Addr} {v : Value} (h : w.cell? p = some v) : w.drew.cell? p = some v := h
theorem keep_set {w : World} {p q : Addr} {v u : Value} (hne : p.block < q.block) (h : w.cell? p = some v) : (w.setCell q u).cell? p = some v :=
  (World.cell?_setCell_other w q p u (fun e => by subst e; omega)).trans h

section
variable {w0 wr : World} {O Px : Nat} {gr im : Array Value} {cs : List Value}

theorem Inv.drew (h : Inv w0 O Px gr im cs wr) : Inv w0 O Px gr im cs wr.drew := ⟨h.bel.drew, h.page, h.res1, h.res2, h.image, h.pixels⟩

theorem Inv.alloc (h : Inv w0 O Px gr im cs wr) (o : Obj) : Inv w0 O Px gr im cs (wr.alloc o) :=
  ⟨h.bel.alloc h.bel.size o, (Below.heap_alloc _ _ _ (size_of_block h.page)).trans h.page, (Below.heap_alloc _ _ _ (size_of_block h.res1)).trans h.res1,
    (Below.heap_alloc _ _ _ (size_of_block h.res2)).trans h.res2, (Below.heap_alloc _ _ _ (size_of_block h.image)).trans h.image, (Below.heap_alloc _ _ _ (size_of_block h.pixels)).trans h.pixels⟩

theorem Inv.ne {t t' : Nat} {g g' : Nat} {x x' : Array Value} (ht : t ≠ t') (h : wr.heap[g]? = some (.cells x t (0, 0))) (h' : wr.heap[g']? = some (.cells x' t' (0, 0))) : g ≠ g' := by
  rintro rfl
  rw [h] at h'
  injection h' with h'
  injection h' with _ e
  exact ht e

theorem Inv.base (h : Inv w0 O Px gr im cs wr) (hP : w0.heap.size ≤ Px) (i : Nat) (v : Value) : Inv w0 O Px gr im (cs.set i v) (wr.setCell ⟨Px, i, none⟩ v) := by
  refine ⟨h.bel.setCell hP v, (Below.heap_setCell _ _ _ _ ?_).trans h.page, (Below.heap_setCell _ _ _ _ ?_).trans h.res1, (Below.heap_setCell _ _ _ _ ?_).trans h.res2, (Below.heap_setCell _ _ _ _ ?_).trans h.image, ?_⟩
  · exact Inv.ne (by decide) h.page h.pixels
  · exact Inv.ne (by decide) h.res1 h.pixels
  · exact Inv.ne (by decide) h.res2 h.pixels
  · exact Inv.ne (by decide) h.image h.pixels
  · simp [World.setCell, Array.getElem?_modify, h.pixels]

theorem cell_of_block {w : World} {g t : Nat} {x : Array Value} (h : w.heap[g]? = some (.cells x t (0, 0))) (i : Nat) : w.cell? ⟨g, i, none⟩ = x[i]? := cell_of_row w g i x t (0, 0) h
theorem frozen_of_block {w : World} {g t : Nat} {x : Array Value} (h : w.heap[g]? = some (.cells x t (0, 0))) (i : Nat) : w.frozen? ⟨g, i, none⟩ = false := by simp [World.frozen?, h]

theorem Inv.start {w2 : World} {a b sl : Value} (hbel : Below w0.heap.size w0 w2) (h0 : w2.heap[w0.heap.size]? = some (.cells gr 24 (0, 0))) (h1 : w2.heap[w0.heap.size + 1]? = some (.cells #[.int .i64 0, .int .i64 0, .slice none 0 0] 30 (0, 0)))
    (h2 : w2.heap[w0.heap.size + 1 + 1]? = some (.cells #[.int .i64 0, .int .i64 0] 26 (0, 0))) (hi : w2.heap[O]? = some (.cells #[a, b, .slice none 0 0] 30 (0, 0))) (hp : w2.heap[Px]? = some (.cells cs.toArray 5 (0, 0))) (hO : w0.heap.size + 1 < O) :
    Inv w0 O Px gr #[a, b, sl] cs (w2.setCell ⟨O, 2, none⟩ sl) := by
  refine ⟨hbel.setCell (p := ⟨O, 2, none⟩) (by show _ ≤ O; omega) sl, (Below.heap_setCell _ _ _ _ ?_).trans h0, (Below.heap_setCell _ _ _ _ ?_).trans h1, (Below.heap_setCell _ _ _ _ ?_).trans h2, ?_, (Below.heap_setCell _ _ _ _ ?_).trans hp⟩
  · show _ ≠ O; omega
  · show _ ≠ O; omega
  · exact Inv.ne (by decide) h2 hi
  · simp [World.setCell, Array.getElem?_modify, hi]
  · exact Inv.ne (by decide) hp hi

/-- What Draw answers and leaves behind on a grid that can be drawn. -/
def Drawn (w : World) (zs : List Int) (L R S X Y : Int) (e : Ending) (w' : World) : Prop := ∃ (B N : Nat) (Wd Ht : Int) (s x0 y0 wd j : Nat),
  e = .returned (.tuple #[.agg #[.int .i64 Wd, .int .i64 Ht, .slice (some ⟨B, 0, none⟩) N N], .agg #[.int .i64 0, .int .i64 0]]) ∧ Wd = 58 * S + 2 * X ∧ Ht = R * S + 2 * Y ∧ N = (Wd * Ht).toNat ∧
  S = s ∧ X = x0 ∧ Y = y0 ∧ Wd = wd ∧ (j : Int) = R * S ∧ w.heap.size ≤ B ∧ w'.heap[B]? = some (.cells (px zs L s x0 y0 wd N j 0).toArray 5 (0, 0)) ∧ Below w.heap.size w w'

theorem Inv.finish (h : Inv w0 O Px gr im cs wr) (a b c d e : Value) :
    (((((wr.setCell ⟨w0.heap.size + 1, 0, none⟩ a).setCell ⟨w0.heap.size + 1, 1, none⟩ b).setCell ⟨w0.heap.size + 1, 2, none⟩ c).setCell ⟨w0.heap.size + 1 + 1, 0, none⟩ d).setCell ⟨w0.heap.size + 1 + 1, 1, none⟩ e).heap[Px]? = some (.cells cs.toArray 5 (0, 0)) ∧
    Below w0.heap.size w0 (((((wr.setCell ⟨w0.heap.size + 1, 0, none⟩ a).setCell ⟨w0.heap.size + 1, 1, none⟩ b).setCell ⟨w0.heap.size + 1, 2, none⟩ c).setCell ⟨w0.heap.size + 1 + 1, 0, none⟩ d).setCell ⟨w0.heap.size + 1 + 1, 1, none⟩ e) := by
  have n1 : Px ≠ w0.heap.size + 1 := Inv.ne (by decide) h.pixels h.res1
  have n2 : Px ≠ w0.heap.size + 1 + 1 := Inv.ne (by decide) h.pixels h.res2
  refine ⟨?_, ((((h.bel.setCell (by simp) _).setCell (by simp) _).setCell (by simp) _).setCell (by simp; omega) _).setCell (by simp; omega) _⟩
  rw [Below.heap_setCell _ _ _ _ n2, Below.heap_setCell _ _ _ _ n2, Below.heap_setCell _ _ _ _ n1, Below.heap_setCell _ _ _ _ n1, Below.heap_setCell _ _ _ _ n1]
  exact h.pixels

end
end Go.Proofs.Ytogcfcdneadocaa
