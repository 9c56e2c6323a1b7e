import Derived.Test.YtgabpbnndikheaaHd
namespace Go.Proofs.Ytgabpbnndikheaa
open Go.RowKit Go.Proofs.YtgabpbnndikheaaW.PrintWords

theorem list_eq_of_take {α : Type} {l m : List α} (hl : l.length = m.length) (h : ∀ i (h1 : i < l.length) (h2 : i < m.length), l[i] = m[i]) : l = m := List.ext_getElem hl fun i h1 h2 => h i h1 h2

set_option maxHeartbeats 1000000 in
set_option maxRecDepth 100000 in
theorem eqbytes_any (A A' : Option Addr) (n n' c c' : Nat) (bs cs : List UInt8) (w : World) (hn : n = bs.length) (hn' : n' = cs.length) (hr : kby.C w A n bs) (hr' : kby.C w A' n' cs) :
    Calls Try.prog 15 #[.slice A n c, .slice A' n' c'] w fun e w' => e = .returned (.bool (decide (bs = cs))) ∧ Below w.heap.size w w' := by
  subst hn hn'
  have hm := hr.2.1
  have HR := Aside0.mk hr
  have HR' := Aside0.mk hr'
  clear hr hr'
  by_cases hlen : bs.length = cs.length
  · have H0 := Aside0.mk hlen
    have h0 : ((bs.length : Int) != (cs.length : Int)) = false := by simp; omega
    have h0' : (bs.length != cs.length) = false := by simp; omega
    clear hlen
    go_enter Try.func15, Try.ntmps15
    go_wp2
    go_loopw [13] (fun i wr => ∃ k : Nat, k ≤ bs.length ∧ i = .int .i64 k ∧ Aside0 (bs.take k = cs.take k) ∧ Aside0 (Below w.heap.size w wr)) (fun i _ => bs.length - (intOf i).toNat)
    case atStart => exact ⟨0, Nat.zero_le _, rfl, ⟨rfl⟩, ⟨Below.refl _ _⟩⟩
    case round =>
      obtain ⟨k, hk, rfl, HT, HB⟩ := hrel
      by_cases hlt : k < bs.length
      · obtain ⟨ad, rfl, hc⟩ := C1_at (Kd.C_below HR.out HB.out) hlt
        have hlt' : k < cs.length := by have := H0.out; omega
        obtain ⟨ad', rfl, hc'⟩ := C1_at (Kd.C_below HR'.out HB.out) hlt'
        have hd : decide ((k : Int) < bs.length) = true := by simp; omega
        generalize hb : bs[k] = b at *
        generalize hb' : cs[k] = b' at *
        have HE := Aside0.mk (And.intro hb hb')
        clear hb hb'
        by_cases hbb : b = b'
        · subst hbb
          go_wp2
          go_quiet (fail)
          go_wp2
          go_roundw
          case rel => exact ⟨k + 1, by omega, by go_num, ⟨by rw [List.take_succ_eq_append_getElem hlt, List.take_succ_eq_append_getElem hlt', HT.out, HE.out.1, HE.out.2]⟩, ⟨pw_below_drewN HB.out _⟩⟩
          case measure => simp [intOf]; omega
        · have hne : ((b.toNat : Int) != (b'.toNat : Int)) = true := by simp; intro h; exact hbb (UInt8.toNat_inj.1 (by omega))
          have hne' : (b.toNat != b'.toNat) = true := by simp; intro h; exact hbb (UInt8.toNat_inj.1 h)
          have HN := Aside0.mk hbb
          clear hbb
          go_wp2
          go_quiet (fail)
          go_wp2
          go_ret
          refine ⟨?_, pw_below_drewN HB.out _⟩
          rw [decide_eq_false (fun h => HN.out (by rw [← HE.out.1, ← HE.out.2]; simp [h]))]
          rfl
      · have hd : decide ((k : Int) < bs.length) = false := by simp; omega
        go_wp2
        go_ret
        refine ⟨?_, HB.out⟩
        have h1 := HT.out
        rw [List.take_of_length_le (by omega), List.take_of_length_le (by have := H0.out; omega)] at h1
        rw [decide_eq_true h1]
        rfl
  · have h0 : ((bs.length : Int) != (cs.length : Int)) = true := by simp; omega
    have h0' : (bs.length != cs.length) = true := by simp; omega
    have HN := Aside0.mk hlen
    clear hlen
    go_enter Try.func15, Try.ntmps15
    go_wp2
    go_ret
    refine ⟨?_, Below.refl _ _⟩
    rw [decide_eq_false (fun h => HN.out (by rw [h]))]
    rfl
end Go.Proofs.Ytgabpbnndikheaa
