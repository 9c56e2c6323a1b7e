import Derived.Test.YtgabpbnndikheaaHa
namespace Go.Proofs.Ytgabpbnndikheaa
open Go.RowKit Go.Proofs.YtgabpbnndikheaaW.PrintWords

set_option maxHeartbeats 1000000 in
set_option maxRecDepth 100000 in
theorem number_any (n : Int) (w : World) (hn : -9223372036854775808 ≤ n) (hn1 : n ≤ 9223372036854775807) :
    Calls Try.prog 10 #[.int .i64 n] w fun e w' => e = .returned (.string ⟨(varint (zig n)).toArray⟩) ∧ Below w.heap.size w w' := by
  have hlen := Aside0.mk (zig_len hn hn1)
  have hlt := Aside0.mk (zig_lt hn hn1)
  by_cases h0 : n < 0
  all_goals (first
    | (have hd : decide (n < 0) = true := by simp; omega
       have HZ := Aside0.mk (zig_not hn h0)
       go_enter Try.func10, Try.ntmps10
       go_wp2
       rw [HZ.out]
       clear HZ hd)
    | (have hd : decide (n < 0) = false := by simp; omega
       have HZ := Aside0.mk (zig_pos h0)
       go_enter Try.func10, Try.ntmps10
       go_wp2
       rw [HZ.out]
       clear HZ hd))
  all_goals
  go_loopw [3, 4] (fun u v wr => ∃ (pre : List UInt8) (m : Nat), u = .int .u64 m ∧ v = .string ⟨pre.toArray⟩ ∧ Aside0 (varint (zig n) = pre ++ varint m) ∧ Aside0 (m < 18446744073709551616) ∧ Aside0 (Below w.heap.size w wr)) (fun u _ _ => (intOf u).toNat)
  case atStart => exact ⟨[], zig n, rfl, rfl, ⟨rfl⟩, hlt, ⟨Below.refl _ _⟩⟩
  case round =>
    obtain ⟨pre, m, rfl, rfl, HV, hm, HB⟩ := hrel
    have hlp2 : pre.length ≤ 9 := by
      have h1 := varint_pos m
      have h2 := congrArg List.length HV.out
      have h3 := hlen.out
      rw [List.length_append] at h2
      omega
    by_cases h : 128 ≤ m
    · have h8 := u8_mod128 m
      have hb : decide ((127 : Int) < m) = true := by simp; omega
      generalize he : UInt8.ofNat (m % 128 + 128) = b at h8
      have HE := Aside0.mk he
      clear he
      have hcv := fun W => conv_bytes (P := Try.prog) (c := 1) Try.underlying22 Try.underlying5 Try.underlying9 (kby_new W b 5)
      go_wp2
      go_roundw
      case rel =>
        have hm1 := hm.out
        have e1 := u64w (x := (m : Int) / 128) (by omega) (by omega)
        refine ⟨pre ++ [b], m / 128, ?_, ?_, ⟨?_⟩, ⟨by omega⟩, ⟨below_alloc' HB.out _⟩⟩
        · rw [e1]; rfl
        · exact congrArg Value.string (ba_app pre [b])
        · rw [HV.out, varint_ge h, HE.out]; simp
      case measure =>
        have hm1 := hm.out
        have e1 := u64w (x := (m : Int) / 128) (by omega) (by omega)
        simp only [intOf]
        rw [e1]
        omega
    · have hb : decide ((127 : Int) < m) = false := by simp; omega
      obtain ⟨b, hb8, HV2⟩ : ∃ b : UInt8, m = b.toNat ∧ Aside0 (varint (zig n) = pre ++ [b]) :=
        ⟨UInt8.ofNat m, by rw [UInt8.toNat_ofNat']; omega, ⟨by rw [HV.out, varint_lt (by omega)]⟩⟩
      clear HV
      subst hb8
      have hcv := fun W => conv_bytes (P := Try.prog) (c := 1) Try.underlying22 Try.underlying5 Try.underlying9 (kby_new W b 5)
      go_wp2
      go_ret
      exact ⟨by rw [HV2.out]; exact congrArg (fun x => Ending.returned (.string x)) (ba_app pre [b]), below_alloc' HB.out _⟩
end Go.Proofs.Ytgabpbnndikheaa
