import Derived.Test.YtgabpbnndikheaaDoorUb
import Derived.Test.YtgabpbnndikheaaDoorWSized
import Derived.OpenShut
import Derived.ProofKit
/-! Arguments as they come in: bytes and numbers. -/
namespace Go.Proofs.YtgabpbnndikheaaDoor
open Go.ChangeShapes Go.WideShapes Go.RowKit Go.Proofs.YtgabpbnndikheaaDoorW.PrintWords
export Go.Proofs.YtgabpbnndikheaaDoorW.PrintWords (sized_ints)

theorem wf_i64 {a : Int} (h : (Lit.int .i64 a).wf = true) : -9223372036854775808 ≤ a ∧ a ≤ 9223372036854775807 := bounds_i64 h
section
variable {H : Type} {enc : TypeId × Value → H} {P : Program} {W : World} {base : Nat} {spare : Nat → Bool} {held : Bool} {t e : TypeId} {a : Option Addr} {len cap : Nat} {d : DataW H} {ps : List MemPlace}
theorem C_of_cells {α : Type} {enc' : α → Value} {h1 : ∀ x, (enc' x).oneCell' = true} {w : World} {x : Addr} {xs : List α} (hm : xs.length ≤ 9223372036854775807) (h : ∀ i (hi : i < xs.length), w.cell? (x.add i) = some (enc' xs[i])) : (Kd.scalar enc' h1).C w (some x) xs.length xs := by
  refine ⟨rfl, hm, fun _ => ⟨x, rfl, fun j p hj => ?_⟩⟩
  obtain ⟨hl, rfl⟩ := List.getElem?_eq_some_iff.1 hj
  refine ⟨[enc' xs[j]], rfl, rfl, fun i u hu => ?_⟩
  obtain rfl : i = 0 := by
    have := (List.getElem?_eq_some_iff.1 hu).1
    simp at this; exact this
  simp at hu; subst hu
  simpa [Kd.scalar] using h j hl
theorem row_ints (hu : P.underlying t = some (.slice e)) (he : P.underlying e = some (.int .i64)) (hc : P.cellsOf e = 1) (h : DataW.Trod enc P W base spare held t (.slice a len cap) d ps) :
    ∃ xs : List Int, xs.length = len ∧ (Kd.int .i64).C W a xs.length xs ∧ xs.length ≤ cap ∧ ∀ x ∈ xs, -9223372036854775808 ≤ x ∧ x ≤ 9223372036854775807 := by
  obtain ⟨fuel, hf⟩ := h
  rcases open_ints hu he hc hf with ⟨hcs, _⟩ | ⟨x, l, c, zs, hcs, _, hl, hm, hz, hx, hcell, hwz⟩
  · simp [Value.cells] at hcs
    obtain ⟨rfl, rfl, rfl⟩ := hcs
    exact ⟨[], rfl, Kd.C_nil _ _, Nat.le_refl _, by simp⟩
  · simp [Value.cells] at hcs
    obtain ⟨rfl, rfl, rfl⟩ := hcs
    have hlz : len ≤ zs.length := by
      rw [hz]
      split
      · exact hl
      · exact Nat.le_refl _
    have hmx : zs.length ≤ 9223372036854775807 := by
      rw [hz]; unfold maxLen at hm
      split <;> omega
    refine ⟨zs.take len, by simp; omega, C_of_cells (by simp; omega) fun i hi => ?_, by simp; omega, fun y hy => wf_i64 (hwz y (List.mem_of_mem_take hy))⟩
    have hi' : i < zs.length := by simp at hi; omega
    rw [hcell i hi']
    simp [List.getD_eq_getElem?_getD, List.getElem?_eq_getElem hi']
theorem row_bytes (hu : P.underlying t = some (.slice e)) (he : P.underlying e = some (.int .u8)) (hc : P.cellsOf e = 1) (h : DataW.Trod enc P W base spare held t (.slice a len cap) d ps) :
    ∃ bs : List UInt8, bs.length = len ∧ kby.C W a bs.length bs ∧ bs.length ≤ cap := by
  obtain ⟨fuel, hf⟩ := h
  rcases open_ints hu he hc hf with ⟨hcs, _⟩ | ⟨x, l, c, zs, hcs, _, hl, hm, hz, hx, hcell, hwz⟩
  · simp [Value.cells] at hcs
    obtain ⟨rfl, rfl, rfl⟩ := hcs
    exact ⟨[], rfl, Kd.C_nil _ _, Nat.le_refl _⟩
  · simp [Value.cells] at hcs
    obtain ⟨rfl, rfl, rfl⟩ := hcs
    have hlz : len ≤ zs.length := by
      rw [hz]
      split
      · exact hl
      · exact Nat.le_refl _
    have hmx : zs.length ≤ 9223372036854775807 := by
      rw [hz]; unfold maxLen at hm
      split <;> omega
    refine ⟨(zs.take len).map fun z => UInt8.ofNat z.toNat, by simp; omega, C_of_cells (by simp; omega) fun i hi => ?_, by simp; omega⟩
    have hi' : i < zs.length := by simp at hi; omega
    rw [hcell i hi']
    have hb := bounds_u8 (hwz zs[i] (List.getElem_mem hi'))
    simp [List.getD_eq_getElem?_getD, List.getElem?_eq_getElem hi']
    omega
end
end Go.Proofs.YtgabpbnndikheaaDoor
