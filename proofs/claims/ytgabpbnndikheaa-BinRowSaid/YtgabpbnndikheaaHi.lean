import Derived.Test.YtgabpbnndikheaaHh
import Derived.Test.YtgabpbnndikheaaHg
set_option linter.constructorNameAsVariable false
namespace Go.Proofs.Ytgabpbnndikheaa
open Go.RowKit Go.Proofs.YtgabpbnndikheaaW.PrintWords

theorem min2_int' (k k' : IntKind) (x y : Int) : Builtin.min2 (.int k x) (.int k' y) = pure (.int k (if y < x then y else x)) := by simp only [Builtin.min2]
theorem min_two' (ats : Array TypeId) (ty : TypeId) (a b : Value) : Builtin.min_ ats ty #[a, b] = (Builtin.min2 a b >>= fun s => pure s) := by simp only [Builtin.min_, List.foldlM_cons, List.foldlM_nil]
attribute [local go_sem] min2_int' min_two'
theorem C_take {α : Type} {d : Kd α} {w : World} {A : Option Addr} {n : Nat} {xs : List α} (h : d.C w A n xs) {m : Nat} (hm : m ≤ n) : d.C w A m (xs.take m) := by
  have h1 := h.1
  refine ⟨by rw [List.length_take]; omega, by have := h.2.1; omega, fun hp => ?_⟩
  obtain ⟨ad, e, hc⟩ := h.2.2 (by omega)
  refine ⟨ad, e, fun j p hj => hc j p ?_⟩
  rw [List.getElem?_take] at hj
  split at hj
  · exact hj
  · cases hj
/-- A slice that reads so. -/
def ByV (w : World) (v : Value) (bs : List UInt8) : Prop := ∃ A c, v = .slice A bs.length c ∧ bs.length ≤ c ∧ kby.C w A bs.length bs

set_option maxHeartbeats 4000000 in
set_option maxRecDepth 100000 in
theorem binRow_any (A : Option Addr) (c : Nat) (xs : List Int) (A1 : Option Addr) (c1 : Nat) (more : List UInt8) (w : World) (hr : (Kd.int .i64).C w A xs.length xs) (hlc : xs.length ≤ c) (hl : xs.length ≤ 140737488355232) (hx : ∀ x ∈ xs, -9223372036854775808 ≤ x ∧ x ≤ 9223372036854775807)
    (hr1 : kby.C w A1 more.length more) (hlc1 : more.length ≤ c1) (hl1 : more.length ≤ 140737488351232) :
    Calls Try.prog 7 #[.slice A xs.length c, .slice A1 more.length c1] w fun e w' => e = .returned (.bool true) ∧ Below w.heap.size w w' := by
  obtain ⟨m, ys, hmin, hm20, hmx, hy, hys, HR0⟩ : ∃ (m : Nat) (ys : List Int), ((if (20 : Int) < (xs.length : Int) then 20 else (xs.length : Int)) = (m : Int)) ∧ m ≤ 20 ∧ m ≤ xs.length ∧ (∀ x ∈ ys, -9223372036854775808 ≤ x ∧ x ≤ 9223372036854775807) ∧ ys.length = m ∧ (Kd.int .i64).C w A m ys := by
    refine ⟨min xs.length 20, xs.take (min xs.length 20), by split <;> omega, by omega, by omega, fun x h => hx x (List.mem_of_mem_take h), by simp, C_take hr (by omega)⟩
  have HR := Aside0.mk HR0
  have HX := Aside0.mk hy
  have HR1 := Aside0.mk hr1
  clear hr hx HR0 hy hr1
  go_enter Try.func7, Try.ntmps7
  go_wp2_with (first | (go_at_call 24; refine (packed_any _).mono ?_; rintro e w0 ⟨rfl, hB0⟩))
  subst hys
  clear hmin
  have HM := Aside0.mk (encAll_len ys HX.out)
  have HB0 := Aside0.mk hB0
  clear hB0
  go_loopw [5, 22] (fun v i wr => ∃ (k : Nat), k ≤ ys.length ∧ i = .int .i64 k ∧ Aside0 (kby.R 5 wr w.heap.size (fun _ => True) v (encAll (ys.take k))) ∧ Aside0 (Below w.heap.size w wr)) (fun _ i _ => ys.length - (intOf i).toNat)
  case atStart => exact ⟨0, Nat.zero_le _, rfl, ⟨Kd.R_nil _ _ _ _ _⟩, HB0⟩
  case round =>
    obtain ⟨k, hk, rfl, HO, HB⟩ := hrel
    by_cases hlt : k < ys.length
    · obtain ⟨ad, rfl, hc⟩ := C1_at (Kd.C_below HR.out HB.out) hlt
      have hd : decide ((k : Int) < ys.length) = true := by simp; omega
      obtain ⟨A2, c2, rfl, hc2, hC2⟩ := R_C HO.out
      have hb := HX.out ys[k] (List.getElem_mem hlt)
      have HE := Aside0.mk (encAll_snoc ys k hlt)
      have hle := Aside0.mk (encAll_len (ys.take k) fun x hx => HX.out x (List.mem_of_mem_take hx))
      have hl2 : (encAll (ys.take k)).length ≤ 200 := by have := hle.out; simp at this; omega
      have HP := Aside0.mk (put_any A2 c2 (encAll (ys.take k)) ys[k] wr hC2 (by omega) hb.1 hb.2)
      generalize encAll (ys.take k) = pre at *
      generalize ys[k] = y at *
      clear hb
      go_wp2_with (first | (go_at_call 9; refine HP.out.mono ?_; rintro e w1 ⟨v1, rfl, hR1, hB1⟩))
      go_roundw
      case rel => exact ⟨k + 1, by omega, by go_num, ⟨by rw [HE.out]; exact Kd.R_lower hR1 HB.out.size⟩, ⟨HB.out.trans (hB1.mono HB.out.size)⟩⟩
      case measure => simp [intOf]; omega
    · have hd : decide ((k : Int) < ys.length) = false := by simp; omega
      obtain rfl : k = ys.length := by omega
      have HO2 := HO.out
      rw [List.take_length] at HO2
      have HO := Aside0.mk HO2
      clear HO2
      have hl2 : (encAll ys).length ≤ 200 := by have := HM.out; omega
      have HR1w := Aside0.mk (Kd.C_below HR1.out HB.out)
      go_wp2_with (at_builtin; refine Kd.R_append_row (w0 := w) (fun b : UInt8 => .int .u8 (b.toNat : Int)) 0 w.heap.size rfl (.tmp 30) (.tmp 31) 22 5 (.int .u8 0) 1 rfl Try.underlying22 u8_info rfl (by omega) _ (encAll ys) more _ _ _ (fun _ => True) rfl rfl (fun _ _ => trivial) HO.out HR1w.out HB.out HB.out.size (by omega) ?_; intro v2 w2 hR2 hB2 _ _)
      obtain ⟨A3, c3, e3, hc3, hC3⟩ := R_C hR2
      go_loopw [5, 35] (fun v i wr => ∃ (k : Nat), k ≤ ys.length ∧ i = .int .i64 k ∧ Aside0 (ByV wr v (encAll (ys.drop k) ++ more)) ∧ Aside0 (Below w.heap.size w wr)) (fun _ i _ => ys.length - (intOf i).toNat)
      case atStart => exact ⟨0, Nat.zero_le _, rfl, ⟨A3, c3, e3, hc3, hC3⟩, ⟨hB2⟩⟩
      case round =>
        clear hR2 hB2 hC3 hc3 e3 HO HB HR1w
        obtain ⟨k, hk, rfl, HO, HB⟩ := hrel
        obtain ⟨A4, c4, rfl, hc4, hC4⟩ := HO.out
        by_cases hlt : k < ys.length
        · obtain ⟨ad, rfl, hc⟩ := C1_at (Kd.C_below HR.out HB.out) hlt
          have hd : decide ((k : Int) < ys.length) = true := by simp; omega
          have hb := HX.out ys[k] (List.getElem_mem hlt)
          have hle := encAll_len (ys.drop k) fun x hx => HX.out x (List.mem_of_mem_drop hx)
          rw [List.length_drop] at hle
          have hlen : (encAll (ys.drop k) ++ more).length ≤ 140737488355232 := by rw [List.length_append]; omega
          have HG := get_any A4 c4 (encAll (ys.drop k) ++ more) _ hC4 hc4 hlen
          rw [encAll_drop ys k hlt, List.append_assoc, get_varint hb.1 hb.2] at HG
          have HG := Aside0.mk (show Calls Try.prog 13 #[.slice A4 (encAll (ys.drop k) ++ more).length c4] _ fun e w' => ∃ v, e = .returned (.tuple #[.int .i64 ys[k], v, .int .i64 0]) ∧ kby.R 5 w' _ (fun _ => True) v (encAll (ys.drop (k + 1)) ++ more) ∧ Below _ _ w' by
            rw [encAll_drop ys k hlt, List.append_assoc]
            have h1 : numOf (zig ys[k], (varint (zig ys[k])).length, 0) = (ys[k], (((varint (zig ys[k])).length : Nat) : Int), 0) := by unfold numOf; simp [unzig_zig]
            have h2 : restOf (zig ys[k], (varint (zig ys[k])).length, 0) (varint (zig ys[k]) ++ (encAll (ys.drop (k + 1)) ++ more)) = encAll (ys.drop (k + 1)) ++ more := by unfold restOf; simp
            rw [h1, h2] at HG
            exact HG)
          have hlt2 : (encAll (ys.drop (k + 1)) ++ more).length < (encAll (ys.drop k) ++ more).length := by
            rw [encAll_drop ys k hlt]
            have := varint_pos (zig ys[k])
            simp only [List.length_append]; omega
          have H4 := Aside0.mk hC4
          generalize encAll (ys.drop k) ++ more = cur at *
          generalize hnx : encAll (ys.drop (k + 1)) ++ more = nxt at *
          have HNX := Aside0.mk hnx
          clear hnx
          clear hb hle hC4
          generalize ys[k] = y at *
          go_wp2_with (first | (go_at_call 13; refine HG.out.mono ?_; rintro e w1 ⟨v1, rfl, hR1, hB1⟩; obtain ⟨A5, c5, rfl, hc5, hC5⟩ := R_C hR1))
          go_roundw
          case rel => exact ⟨k + 1, by omega, by go_num, ⟨by rw [HNX.out]; exact ⟨A5, c5, rfl, hc5, hC5⟩⟩, ⟨HB.out.trans (hB1.mono HB.out.size)⟩⟩
          case measure => simp [intOf]; omega
        · have hd : decide ((k : Int) < ys.length) = false := by simp; omega
          have h0 : ys.drop k = [] := List.drop_of_length_le (by omega)
          have he : encAll (ys.drop k) ++ more = more := by rw [h0]; rfl
          have H4 := Aside0.mk (he ▸ hC4)
          have hq := Aside0.mk (eqbytes_any A4 A1 more.length more.length c4 c1 more more wr rfl rfl H4.out (Kd.C_below HR1.out HB.out))
          rw [he] at *
          clear hC4 HO
          go_wp2_with (first | (go_at_call 15; refine hq.out.mono ?_; rintro e w1 ⟨rfl, hB1⟩; rw [decide_eq_true rfl]))
          go_ret
          exact ⟨rfl, HB.out.trans (hB1.mono HB.out.size)⟩
end Go.Proofs.Ytgabpbnndikheaa
