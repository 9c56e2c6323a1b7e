import Derived.Test.YtgabpbnndikheaaHf
import Derived.Test.YtgabpbnndikheaaRg
set_option linter.constructorNameAsVariable false
namespace Go.Proofs.Ytgabpbnndikheaa
open Go.RowKit Go.Proofs.YtgabpbnndikheaaW.PrintWords

theorem C_dropO {α : Type} {enc : α → Value} {h1 : ∀ x, (enc x).oneCell' = true} {w : World} {A : Option Addr} {n : Nat} {xs : List α} (h : (Kd.scalar enc h1).C w A n xs) (k : Nat) : (Kd.scalar enc h1).C w (A.map (fun x => x.add k)) (n - k) (xs.drop k) := by
  cases A with
  | some ad => exact C_drop1 h k
  | none =>
    have h0 : n = 0 := by
      rcases Nat.eq_zero_or_pos n with h0 | h0
      · exact h0
      · obtain ⟨ad, e, _⟩ := h.2.2 h0
        cases e
    have hx : xs = [] := List.eq_nil_of_length_eq_zero (h.1.trans h0)
    subst h0 hx
    simp only [List.drop_nil, Nat.zero_sub]
    exact C_zero _ _

set_option maxHeartbeats 4000000 in
set_option maxRecDepth 100000 in
theorem binNumbers_any (A : Option Addr) (c : Nat) (bs : List UInt8) (n : Int) (w : World) (hr : kby.C w A bs.length bs) (hlc : bs.length ≤ c) (hl : bs.length ≤ 140737488355232) (hn : -9223372036854775808 ≤ n) (hn1 : n ≤ 9223372036854775807) :
    Calls Try.prog 3 #[.slice A bs.length c, .int .i64 n] w fun e w' => e = .returned (.bool true) ∧ Below w.heap.size w w' := by
  have HR := Aside0.mk hr
  clear hr
  have hs : (⟨bs.toArray⟩ : ByteArray).size = bs.length := by simp [ByteArray.size]
  have HS := Aside0.mk hs
  clear hs
  obtain ⟨cs, hcs⟩ : ∃ cs, cs = bs ++ varint (zig n) := ⟨_, rfl⟩
  have hcat : (⟨bs.toArray⟩ : ByteArray) ++ (⟨(varint (zig n)).toArray⟩ : ByteArray) = ⟨cs.toArray⟩ := by rw [hcs]; exact ba_app _ _
  have HP := Aside0.mk (fun W hb => hcs ▸ put_any A c bs n W hb hl hn hn1)
  clear hcs
  go_enter Try.func3, Try.ntmps3
  go_upto_region 1 with fail
  go_cut [32] (fun v wx => v = .bool false ∧ Aside0 (Below w.heap.size w wx))
  case first =>
    refine wp_region_loc (by kernel_rfl) (by kernel_rfl) (by kernel_rfl) (fun xs => by simp only [fill, Act.put, List.setIfInBounds_toArray, List.set_cons_zero, List.set_cons_succ, Nat.reduceAdd]; rfl) ?_
    apply wpLoc_det
    · intro xs W hb he
      unfold locRun
      go_simp
      exact loc_call (begun_any _)
    repeat (apply wpLoc_det; · (intro xs W hb he; simp [edgeSat, Region.binds, Fact.at_] at he; unfold locRun; go_simp; exact loc_val))
    apply wpLoc_fresh (fun v W => kby.R 5 W w.heap.size (fun _ => True) v cs)
    · exact fun u W W' hb h => Kd.R_below h hb
    · intro xs W hb he
      simp [edgeSat, Region.binds, Fact.at_] at he
      unfold locRun
      go_simp
      exact loc_call_fresh ((HP.out W (Kd.C_below HR.out hb)).mono fun e w' ⟨v, he, hR, hB⟩ => ⟨v, he, Kd.R_lower hR hb.size, hB⟩)
    apply wpLoc_det
    · intro xs W hb he
      simp [edgeSat, Region.binds, Fact.at_] at he
      obtain ⟨h1, h2⟩ := he
      obtain ⟨A1, c1, e1, hc1, hC⟩ := R_C h1
      have hcv := conv_bytes (P := Try.prog) (c := c1) Try.underlying22 Try.underlying5 Try.underlying9 hC
      clear h1
      unfold locRun
      go_simp
      exact loc_val
    repeat (apply wpLoc_det; · (intro xs W hb he; simp [edgeSat, Region.binds, Fact.at_] at he; unfold locRun; go_simp; exact loc_val))
    apply wpLoc_det
    · intro xs W hb he
      simp [edgeSat, Region.binds, Fact.at_] at he
      have hcv := conv_bytes (P := Try.prog) (c := c) Try.underlying22 Try.underlying5 Try.underlying9 (Kd.C_below HR.out hb)
      unfold locRun
      go_simp
      exact loc_val
    repeat (apply wpLoc_det; · (intro xs W hb he; simp [edgeSat, Region.binds, Fact.at_] at he; unfold locRun; go_simp; exact loc_val))
    apply wpLoc_det
    · intro xs W hb he
      simp [edgeSat, Region.binds, Fact.at_] at he
      unfold locRun
      go_simp
      exact loc_call (number_any n W hn hn1)
    repeat (apply wpLoc_det; · (intro xs W hb he; simp [edgeSat, Region.binds, Fact.at_] at he; unfold locRun; go_simp; exact loc_val))
    apply wpLoc_det
    · intro xs W hb he
      simp [edgeSat, Region.binds, Fact.at_] at he
      unfold locRun
      go_simp
      rw [if_neg (by have := zig_len hn hn1; omega)]
      exact loc_val
    repeat (apply wpLoc_det; · (intro xs W hb he; simp [edgeSat, Region.binds, Fact.at_] at he; unfold locRun; go_simp; exact loc_val))
    apply wpLoc_det
    · intro xs W hb he
      simp [edgeSat, Region.binds, Fact.at_] at he
      unfold locRun
      go_simp
      exact loc_call_same (sum_any A c bs W (Kd.C_below HR.out hb))
    repeat (apply wpLoc_det; · (intro xs W hb he; simp [edgeSat, Region.binds, Fact.at_] at he; unfold locRun; go_simp; exact loc_val))
    apply wpLoc_det
    · intro xs W hb he
      simp [edgeSat, Region.binds, Fact.at_] at he
      have hcv := conv_bytes (P := Try.prog) (c := c) Try.underlying22 Try.underlying5 Try.underlying9 (Kd.C_below HR.out hb)
      unfold locRun
      go_simp
      exact loc_val
    apply wpLoc_det
    · intro xs W hb he
      simp [edgeSat, Region.binds, Fact.at_] at he
      unfold locRun
      go_simp
      exact loc_call_same (refsum_any _ W (by rw [HS.out]; omega))
    repeat (apply wpLoc_det; · (intro xs W hb he; simp [edgeSat, Region.binds, Fact.at_] at he; unfold locRun; go_simp; exact loc_val))
    refine wpLoc_nil fun xs W hb he => ?_
    simp only [List.nil_append, List.cons_append, factsAll, Fact.at_, Nat.reduceAdd] at he
    have h32 := he.2.2.2.2.2.2.2.2.2.2.2.2.2.2.2.2.2.2.2.2.2.1
    clear he
    go_wp2_with fail
    go_meet
    exact ⟨h32, ⟨hb⟩⟩
  case rest =>
    obtain ⟨rfl, HB⟩ := hcut
    have hg := Aside0.mk (fun W hb => get_any A c bs W (Kd.C_below HR.out hb) hlc hl)
    have hN := Aside0.mk (fun W hb => numberof_any A c bs W (Kd.C_below HR.out hb))
    have hsz := Aside0.mk (getU_size bs 0 0)
    clear hcat HP
    generalize hr : getU 0 0 bs = r at *
    clear hr
    obtain ⟨u, s, x⟩ := r
    by_cases hx : x = 0
    · subst hx
      have hs1 := hsz.out rfl
      simp only [Nat.zero_add] at hs1
      have hg := Aside0.mk (show ∀ W, Below w.heap.size w W → Calls Try.prog 13 #[.slice A bs.length c] W fun e w' => ∃ v, e = .returned (.tuple #[.int .i64 (unzig u), v, .int .i64 0]) ∧ kby.R 5 w' W.heap.size (fun _ => True) v (bs.drop s) ∧ Below W.heap.size W w' from hg.out)
      have hN := Aside0.mk (show ∀ W, Below w.heap.size w W → Calls Try.prog 14 #[.slice A bs.length c] W fun e w' => e = .returned (.tuple #[.int .i64 (unzig u), .int .i64 s, .int .i64 0]) ∧ W = w' from hN.out)
      go_wp2_with (first
        | (go_at_call 13; refine (hg.out _ HB.out).mono ?_; rintro e w1 ⟨v, rfl, hR, hB1⟩; have HB1 := Aside0.mk (HB.out.trans (hB1.mono HB.out.size)); obtain ⟨A1, c1, rfl, hc1, hC⟩ := R_C hR)
        | (go_at_call 14; refine (hN.out _ HB1.out).mono ?_; rintro e w2 ⟨rfl, rfl⟩))
      all_goals
        rw [List.length_drop] at hC
        have hq := eqbytes_any A1 (A.map (fun x => x.add s)) (bs.length - s) (bs.length - s) c1 (c - s) (bs.drop s) (bs.drop s) w1 (by simp) (by simp) hC (C_dropO (Kd.C_below HR.out HB1.out) s)
        have hq2 := fun h0 : bs.length - s = 0 => eqbytes_any A1 A (bs.length - s) (bs.length - s) c1 0 (bs.drop s) (bs.drop s) w1 (by simp) (by simp) hC (by rw [h0, List.drop_of_length_le (by omega)]; exact C_zero _ _)
        (first
          | (with_reducible refine hq.mono ?_)
          | (with_reducible refine (hq2 ?_).mono ?_; omega))
        clear hq hq2
        rintro e w3 ⟨rfl, hB3⟩
        rw [decide_eq_true rfl]
        go_wp2
        go_ret
        exact ⟨by simp, HB1.out.trans (hB3.mono HB1.out.size)⟩
    · have hg := Aside0.mk (show ∀ W, Below w.heap.size w W → Calls Try.prog 13 #[.slice A bs.length c] W fun e w' => ∃ v, e = .returned (.tuple #[.int .i64 0, v, .int .i64 x]) ∧ kby.R 5 w' W.heap.size (fun _ => True) v [] ∧ Below W.heap.size W w' from by simpa [numOf, restOf, hx] using hg.out)
      have hN := Aside0.mk (show ∀ W, Below w.heap.size w W → Calls Try.prog 14 #[.slice A bs.length c] W fun e w' => e = .returned (.tuple #[.int .i64 0, .int .i64 0, .int .i64 x]) ∧ W = w' from by simpa [numOf, hx] using hN.out)
      go_wp2_with (first
        | (go_at_call 13; refine (hg.out _ HB.out).mono ?_; rintro e w1 ⟨v, rfl, hR, hB1⟩; have HB1 := Aside0.mk (HB.out.trans (hB1.mono HB.out.size)); obtain ⟨A1, c1, rfl, hc1, hC⟩ := R_C hR)
        | (go_at_call 14; refine (hN.out _ HB1.out).mono ?_; rintro e w2 ⟨rfl, rfl⟩))
      go_ret
      exact ⟨rfl, HB1.out⟩
end Go.Proofs.Ytgabpbnndikheaa
