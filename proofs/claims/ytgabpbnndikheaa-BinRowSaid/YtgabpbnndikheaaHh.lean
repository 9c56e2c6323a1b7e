import Derived.Test.YtgabpbnndikheaaHf
import Derived.Test.YtgabpbnndikheaaRg
set_option linter.constructorNameAsVariable false
namespace Go.Proofs.Ytgabpbnndikheaa
open Go.RowKit Go.Proofs.YtgabpbnndikheaaW.PrintWords

set_option maxHeartbeats 1000000 in
set_option maxRecDepth 100000 in
theorem read_nil (w : World) :
    Calls Try.prog 25 #[.slice none 0 0] w fun e w' => e = .returned (.tuple #[.slice none 0 0, .int .i64 14]) ∧ w = w' := by
  go_enter Try.func25, Try.ntmps25
  go_wp2
  go_ret2
  exact ⟨rfl, rfl⟩

set_option maxHeartbeats 1000000 in
set_option maxRecDepth 100000 in
theorem packed_any (w : World) :
    Calls Try.prog 24 #[] w fun e w' => e = .returned (.bool true) ∧ Below w.heap.size w w' := by
  have hv : varint (zig (-1)) = [1] := by rw [show zig (-1) = 1 from rfl, varint_lt (by omega)]; rfl
  have HV := Aside0.mk hv
  clear hv
  go_enter Try.func24, Try.ntmps24
  go_wp2_with (first
    | (go_at_call 25; refine (read_nil _).mono ?_; rintro e w0 ⟨rfl, rfl⟩)
    | (go_at_call 9; refine (put_any none 0 [] (-1) _ (C_zero _ _) (by simp) (by omega) (by omega)).mono ?_; rintro e w1 ⟨v, rfl, hR, hB⟩; rw [HV.out] at hR; obtain ⟨A1, c1, rfl, hc1, hC⟩ := R_C hR)
    | (go_at_call 15; refine (eqbytes_any A1 (some ⟨w1.heap.size, 0, none⟩) 1 1 c1 1 [1] [1] _ rfl rfl (Kd.C_alloc hC _) (kby_new w1 1 _)).mono ?_; rintro e w2 ⟨rfl, hB2⟩))
  go_ret
  exact ⟨rfl, below_alloc' hB _ |>.trans (hB2.mono (by have := hB.size; simp; omega))⟩
end Go.Proofs.Ytgabpbnndikheaa
