import Derived.Test.YtgabpbnndikheaaHe
import Derived.Deep.RegionWith
import Derived.Deep.DeepCutAuto
namespace Go.Proofs.Ytgabpbnndikheaa
open Go.RowKit Go.Proofs.YtgabpbnndikheaaW.PrintWords

theorem R_C {α : Type} {d : Kd α} {e : Nat} {w : World} {base : Nat} {ok : Nat → Prop} {v : Value} {xs : List α} (h : d.R e w base ok v xs) : ∃ A c, v = .slice A xs.length c ∧ xs.length ≤ c ∧ d.C w A xs.length xs := Kd.R_reads h

set_option maxHeartbeats 1000000 in
set_option maxRecDepth 100000 in
theorem begun_any (w : World) :
    Calls Try.prog 8 #[] w fun e w' => e = .returned (.bool true) ∧ Below w.heap.size w w' := by
  have hv : varint (zig (-1)) = [1] := by rw [show zig (-1) = 1 from rfl, varint_lt (by omega)]; rfl
  have HV := Aside0.mk hv
  clear hv
  go_enter Try.func8, Try.ntmps8
  go_wp2_with (first
    | (go_at_call 9; refine (put_any none 0 [] (-1) _ (C_zero _ _) (by simp) (by omega) (by omega)).mono ?_; rintro e w1 ⟨v, rfl, hR, hB⟩; rw [HV.out] at hR; obtain ⟨A1, c1, rfl, hc1, hC⟩ := R_C hR)
    | (go_at_call 15; refine (eqbytes_any A1 (some ⟨w1.heap.size, 0, none⟩) 1 1 c1 1 [1] [1] _ rfl rfl (Kd.C_alloc hC _) (kby_new w1 1 _)).mono ?_; rintro e w2 ⟨rfl, hB2⟩))
  go_ret
  exact ⟨rfl, below_alloc' hB _ |>.trans (hB2.mono (by have := hB.size; simp; omega))⟩
end Go.Proofs.Ytgabpbnndikheaa
