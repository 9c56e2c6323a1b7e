import Derived.Test.YtgabpbnndikheaaDoorRl
import Derived.Test.YtgabpbnndikheaaDoorUb
import Derived.Test.YtgabpbnndikheaaDoorWWords
import Derived.Deep.DeepCutAuto
import Derived.WalkKit
import Derived.Test.YtgabpbnndikheaaDoorProg
set_option linter.constructorNameAsVariable false
/-! Points. -/
namespace Go.Proofs.YtgabpbnndikheaaDoor
open Go.RowKit Go.Proofs.YtgabpbnndikheaaDoorW.PrintWords
theorem greater_two (k k' : IntKind) (m n : Int) : Builtin.max2 (.int k m) (.int k' n) = pure (.int k (if m < n then n else m)) := by
  unfold Builtin.max2
  rfl
theorem lesser_two (k k' : IntKind) (m n : Int) : Builtin.min2 (.int k m) (.int k' n) = pure (.int k (if n < m then n else m)) := by
  unfold Builtin.min2
  rfl
theorem greater_of (ts : Array TypeId) (t : TypeId) (u v : Value) : Builtin.max_ ts t #[u, v] = (do let s ← Builtin.max2 u v; pure s) := by
  simp [Builtin.max_]
theorem lesser_of (ts : Array TypeId) (t : TypeId) (u v : Value) : Builtin.min_ ts t #[u, v] = (do let s ← Builtin.min2 u v; pure s) := by
  simp [Builtin.min_]
attribute [local go_sem] greater_two lesser_two greater_of lesser_of

structure Pt where
  x : Int
  y : Int
  deriving DecidableEq
def Pt.v (p : Pt) : Value := .agg #[.int .i64 p.x, .int .i64 p.y]
/-- limit(n, 1048576). -/
def lim (n : Int) : Int := if n < -1048576 then -1048576 else if 1048576 < n then 1048576 else n
theorem lim_le (n : Int) : -1048576 ≤ lim n ∧ lim n ≤ 1048576 := by unfold lim; split <;> (try split) <;> omega

theorem i64_ret {k : IntKind} {a b : Int} (h : a = b) : Ending.returned (.int k a) = .returned (.int k b) := by rw [h]
theorem limit_any (n : Int) (w : World) :
    Calls Tryd.prog 127 #[.int .i64 n, .int .i64 1048576] w fun e w' => e = .returned (.int .i64 (lim n)) ∧ w = w' := by
  go_enter Tryd.func127, Tryd.ntmps127
  go_wp2
  all_goals
    go_ret
    exact ⟨i64_ret (by unfold lim; split at * <;> (try split) <;> (try split) <;> omega), rfl⟩
def Pt.clamp (p : Pt) : Pt := ⟨lim p.x, lim p.y⟩
def BoxP (w : World) (g : Nat) (p : Pt) : Prop := w.heap[g]? = some (.cells #[.int .i64 p.x, .int .i64 p.y] 73 (0, 0))
theorem BoxP.lt {w : World} {g : Nat} {x : Pt} (h : BoxP w g x) : g < w.heap.size := by
  unfold BoxP at h
  exact (Array.getElem?_eq_some_iff.1 h).1
theorem BoxP.keep {w w' : World} {g : Nat} {x : Pt} (h : BoxP w g x) (hb : Below w.heap.size w w') : BoxP w' g x := (hb.block g h.lt).trans h
theorem BoxP.cs {w : World} {g : Nat} {x : Pt} (h : BoxP w g x) : w.cell? ⟨g, 0, none⟩ = some (.int .i64 x.x) ∧ w.cell? ⟨g, 1, none⟩ = some (.int .i64 x.y) := by unfold BoxP at h; simp [World.cell?, h]
theorem BoxP.fr {w : World} {g : Nat} {x : Pt} (h : BoxP w g x) (i : Nat) : w.frozen? ⟨g, i, none⟩ = false := by unfold BoxP at h; simp [World.frozen?, h]
theorem boxP_alloc (w : World) (x : Pt) : BoxP (w.alloc (.cells #[.int .i64 x.x, .int .i64 x.y] 73)) w.heap.size x := heap_alloc_new w _
theorem boxP1 {P : Program} {c : Code} {Q : Exit → Act → World → Prop} {a : Act} {w : World} {m n : Int}
    (h : ∀ w0, Aside0 (Below w.heap.size w w0) → Aside0 (BoxP w0 w.heap.size ⟨m, n⟩) → c.wp P Q a w0) : c.wp P Q a (w.alloc (.cells #[.int .i64 m, .int .i64 n] 73)) :=
  h _ ⟨below_alloc' (Below.refl _ _) _⟩ ⟨heap_alloc_new w _⟩
theorem boxP2 {P : Program} {c : Code} {Q : Exit → Act → World → Prop} {a : Act} {w : World} {m n m' n' : Int}
    (h : ∀ w0, Aside0 (Below w.heap.size w w0) → Aside0 (BoxP w0 w.heap.size ⟨m, n⟩) → Aside0 (BoxP w0 (w.heap.size + 1) ⟨m', n'⟩) → c.wp P Q a w0) :
    c.wp P Q a ((w.alloc (.cells #[.int .i64 m, .int .i64 n] 73)).alloc (.cells #[.int .i64 m', .int .i64 n'] 73)) := by
  refine h _ ⟨below_alloc' (below_alloc' (Below.refl _ _) _) _⟩ ⟨BoxP.keep (x := ⟨m, n⟩) (heap_alloc_new w _) (below_alloc' (Below.refl _ _) _)⟩ ⟨?_⟩
  have := heap_alloc_new (w.alloc (.cells #[.int .i64 m, .int .i64 n] 73)) (.cells #[.int .i64 m', .int .i64 n'] 73)
  rw [World.size_alloc] at this
  exact this
def set2 (w : World) (g : Nat) (m n : Int) : World := (w.setCell ⟨g, 0, none⟩ (.int .i64 m)).setCell ⟨g, 1, none⟩ (.int .i64 n)
theorem BoxP.set {w : World} {g : Nat} {x : Pt} (h : BoxP w g x) (m n : Int) : BoxP (set2 w g m n) g ⟨m, n⟩ := by
  unfold BoxP set2 at *
  simp [World.setCell, Array.getElem?_modify, h]
theorem BoxP.far {w : World} {g g' : Nat} {x : Pt} (h : BoxP w g x) (hg : g ≠ g') (m n : Int) : BoxP (set2 w g' m n) g x := by
  unfold BoxP set2 at *
  rw [Below.heap_setCell _ _ _ _ hg, Below.heap_setCell _ _ _ _ hg]
  exact h
theorem below_set2 {B : Nat} {w0 w : World} (h : Below B w0 w) {g : Nat} (hg : B ≤ g) (m n : Int) : Below B w0 (set2 w g m n) := by
  unfold set2
  exact (h.setCell hg _).setCell hg _
set_option maxRecDepth 100000 in
theorem clamp_any (p : Pt) (w : World) :
    Calls Tryd.prog 110 #[p.v] w fun e w' => e = .returned p.clamp.v ∧ Below w.heap.size w w' := by
  obtain ⟨x, y⟩ := p
  unfold Pt.v
  go_enter Tryd.func110, Tryd.ntmps110
  go_wp2_with fail
  refine boxP2 fun w0 HB0 HX HY => ?_
  refine wp_region_last' [_, _, _, _, _, _, _] rfl (by kernel_rfl) (by kernel_rfl) (by kernel_rfl) (by kernel_rfl) (fun xs => by simp only [fill, Act.put, List.setIfInBounds_toArray, List.set_cons_zero, List.set_cons_succ, Nat.reduceAdd]; rfl) ?_
  repeat (apply wpLoc_det; · (intro vs W hb he; obtain ⟨k1, k2⟩ := (HX.out.keep hb).cs; simp only at k1 k2; simp [edgeSat, Region.binds, Fact.at_] at he; unfold locRun; go_simp; first | exact loc_val | (with_reducible exact loc_call_same (limit_any _ W))))
  refine wpLoc_nil fun vs W hb he => ?_
  simp only [List.nil_append, List.cons_append, factsAll, Fact.at_, Nat.reduceAdd] at he
  obtain ⟨-, -, -, -, -, -, e6, -⟩ := he
  have HY2 := HY.out.keep hb
  obtain ⟨k3, k4⟩ := HY2.cs
  have k5 := HY2.fr
  simp only at k3 k4
  rw [if_pos (by rfl), e6]
  go_wp2
  have hS := HY2.set (lim x) (lim y)
  have hB := below_set2 (B := w.heap.size) (HB0.out.trans (hb.mono HB0.out.size)) (g := w.heap.size + 1) (by omega) (lim x) (lim y)
  unfold set2 at hS hB
  obtain ⟨r1, r2⟩ := hS.cs
  simp only at r1 r2
  refine bodyPost_ret (v := Pt.v ⟨lim x, lim y⟩) (by simp [results, Tryd.results110, go_sem, *]; rfl) rfl ⟨rfl, hB⟩
end Go.Proofs.YtgabpbnndikheaaDoor
