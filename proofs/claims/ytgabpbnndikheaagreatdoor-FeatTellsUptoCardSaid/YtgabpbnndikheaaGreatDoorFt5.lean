import Derived.Test.YtgabpbnndikheaaGreatDoorFt4
import Derived.JoinedCond
import Derived.SizedLaws
import Derived.LaidLaws
import Derived.Test.YtgabpbnndikheaaGreatDoorRows
import Derived.Lib.LaidU8
namespace Go.Proofs.YtgabpbnndikheaaGreatDoor.I
open Go.RowKit
set_option linter.unusedVariables false
set_option linter.constructorNameAsVariable false
theorem dec_val (u : Nat) : (Lib.decDigits u).foldl (fun a b => a * 10 + (b.toNat - 48)) 0 = u := by
  induction u using Nat.strongRecOn with
  | _ u ih =>
    rw [Lib.decDigits]
    split
    · simp only [List.foldl_cons, List.foldl_nil, UInt8.toNat_ofNat']; omega
    · rw [List.foldl_append, ih (u / 10) (by omega)]
      simp only [List.foldl_cons, List.foldl_nil, UInt8.toNat_ofNat']; omega
theorem dec_dig (u : Nat) : ∀ b ∈ Lib.decDigits u, 48 ≤ b.toNat ∧ b.toNat ≤ 57 := by
  induction u using Nat.strongRecOn with
  | _ u ih =>
    rw [Lib.decDigits]
    split
    · intro b hb
      simp only [List.mem_singleton] at hb
      subst hb
      rw [UInt8.toNat_ofNat']; omega
    · intro b hb
      rcases List.mem_append.1 hb with hb | hb
      · exact ih (u / 10) (by omega) b hb
      · simp only [List.mem_singleton] at hb
        subst hb
        rw [UInt8.toNat_ofNat']; omega
theorem dec_inj {u v : Nat} (h : Lib.decDigits u = Lib.decDigits v) : u = v := by rw [← dec_val u, h, dec_val]
theorem itoa_inj {m n : Int} (h : Lib.itoa m = Lib.itoa n) : m = n := by
  unfold Lib.itoa at h
  have key : ∀ (u v : Nat), ¬ (45 :: Lib.decDigits u = Lib.decDigits v) := fun u v he => by
    have := dec_dig v 45 (by rw [← he]; simp)
    revert this; decide
  by_cases h1 : m < 0 <;> by_cases h2 : n < 0
  · rw [if_pos h1, if_pos h2] at h
    injection h with _ h
    have := dec_inj h
    omega
  · rw [if_pos h1, if_neg h2] at h
    exact absurd h (key _ _)
  · rw [if_neg h1, if_pos h2] at h
    exact absurd h.symm (key _ _)
  · rw [if_neg h1, if_neg h2] at h
    have := dec_inj h
    omega
theorem itoa_nosp (n : Int) : (32 : UInt8) ∉ Lib.itoa n := by
  unfold Lib.itoa
  intro h
  have key : ∀ u : Nat, (32 : UInt8) ∉ Lib.decDigits u := fun u he => by
    have := dec_dig u 32 he
    revert this; decide
  split at h
  · rcases List.mem_cons.1 h with h | h
    · revert h; decide
    · exact key _ h
  · exact key _ h
theorem split_sp {c : UInt8} : ∀ {a b r s : List UInt8}, c ∉ a → c ∉ b → a ++ c :: r = b ++ c :: s → a = b ∧ r = s
  | [], [], r, s, _, _, h => by simpa using h
  | [], y :: b, r, s, _, hb, h => by
    simp only [List.nil_append, List.cons_append, List.cons.injEq] at h
    exact absurd (by rw [h.1]; simp) hb
  | x :: a, [], r, s, ha, _, h => by
    simp only [List.nil_append, List.cons_append, List.cons.injEq] at h
    exact absurd (by rw [h.1]; simp) ha
  | x :: a, y :: b, r, s, ha, hb, h => by
    simp only [List.cons_append, List.cons.injEq] at h
    obtain ⟨h1, h2⟩ := split_sp (fun hc => ha (by simp [hc])) (fun hc => hb (by simp [hc])) h.2
    exact ⟨by rw [h.1, h1], h2⟩
/-- Texts that can be told where they end. -/
def PI {α : Type} (g : α → List UInt8) : Prop := ∀ a b r s, g a ++ r = g b ++ s → a = b ∧ r = s
theorem num_pi : PI numT := fun a b r s h => by
  unfold numT at h
  rw [List.append_assoc, List.append_assoc] at h
  obtain ⟨h1, h2⟩ := split_sp (itoa_nosp a) (itoa_nosp b) h
  exact ⟨itoa_inj h1, h2⟩
theorem flat_pi {α : Type} {g : α → List UInt8} (hg : PI g) : ∀ (l m : List α) (r s : List UInt8), l.length = m.length → l.flatMap g ++ r = m.flatMap g ++ s → l = m ∧ r = s
  | [], [], r, s, _, h => ⟨rfl, by simpa using h⟩
  | [], b :: m, r, s, hl, _ => by simp at hl
  | a :: l, [], r, s, hl, _ => by simp at hl
  | a :: l, b :: m, r, s, hl, h => by
    rw [List.flatMap_cons, List.flatMap_cons, List.append_assoc, List.append_assoc] at h
    obtain ⟨h1, h2⟩ := hg a b _ _ h
    obtain ⟨h3, h4⟩ := flat_pi hg l m r s (by simpa using hl) h2
    exact ⟨by rw [h1, h3], h4⟩
theorem nums_pi {ns ms : List Int} {r s : List UInt8} (hl : ns.length = ms.length) (h : numsT ns ++ r = numsT ms ++ s) : ns = ms ∧ r = s := flat_pi num_pi ns ms r s hl h
theorem p_pi : PI pT := fun a b r s h => by
  unfold pT at h
  rw [List.append_assoc, List.append_assoc] at h
  obtain ⟨h1, h2⟩ := nums_pi (by rfl) h
  simp only [List.cons.injEq, and_true] at h1
  have hl : a.length = b.length := by omega
  refine flat_pi (g := fun q : DPt => numsT [q.1, q.2.1]) (fun p q r s h => ?_) a b r s hl h2
  obtain ⟨h3, h4⟩ := nums_pi (by rfl) h
  obtain ⟨p1, p2, ⟨⟩⟩ := p
  obtain ⟨q1, q2, ⟨⟩⟩ := q
  simp only [List.cons.injEq, and_true] at h3
  exact ⟨by rw [h3.1, h3.2], h4⟩
theorem fb_true : Lib.formatBool true = [116, 114, 117, 101] := by decide +kernel
theorem fb_false : Lib.formatBool false = [102, 97, 108, 115, 101] := by decide +kernel
theorem fb_pi : PI Lib.formatBool := fun a b r s h => by
  cases a <;> cases b <;> simp only [fb_true, fb_false, List.cons_append, List.nil_append, List.cons.injEq] at h
  · exact ⟨rfl, by simpa using h⟩
  · exact absurd h.1 (by decide)
  · exact absurd h.1 (by decide)
  · exact ⟨rfl, by simpa using h⟩
theorem ofS_inj {a b : ByteArray} (h : ofS a = ofS b) : a = b := by rw [← mk_ofS a, h, mk_ofS]
theorem a_pi : PI aT := fun a b r s h => by
  obtain ⟨k, ⟨v1, v2, v3, v4, ⟨⟩⟩, ⟨⟩⟩ := a
  obtain ⟨k', ⟨w1, w2, w3, w4, ⟨⟩⟩, ⟨⟩⟩ := b
  unfold aT at h
  simp only [List.append_assoc] at h
  obtain ⟨h1, h2⟩ := nums_pi (by rfl) h
  simp only [List.cons.injEq, and_true] at h1
  obtain ⟨e1, e2, e3, e4⟩ := h1
  obtain ⟨h3, h4⟩ := List.append_inj h2 (by rw [ofS_len, ofS_len]; omega)
  obtain ⟨h5, h6⟩ := List.append_inj h4 (by rw [ofS_len, ofS_len]; omega)
  obtain ⟨h7, h8⟩ := fb_pi _ _ _ _ h6
  exact ⟨by rw [ofS_inj h3, e2, e3, ofS_inj h5, h7], h8⟩
theorem f_pi : PI fT := fun a b r s h => by
  obtain ⟨i, k, ps, ats, fr, up, ⟨⟩⟩ := a
  obtain ⟨i', k', ps', ats', fr', up', ⟨⟩⟩ := b
  unfold fT at h
  simp only [List.append_assoc] at h
  obtain ⟨h1, h2⟩ := nums_pi (by rfl) h
  simp only [List.cons.injEq, and_true] at h1
  obtain ⟨e1, e2, e3, e4, e5, e6⟩ := h1
  obtain ⟨h3, h4⟩ := flat_pi p_pi ps ps' _ _ (by omega) h2
  obtain ⟨h5, h6⟩ := flat_pi a_pi ats ats' _ _ (by omega) h4
  exact ⟨by rw [e1, e2, h3, h5, e3, e4], h6⟩
theorem whose_inj {l m : List DFea} (h : whoseT l = whoseT m) : l = m := by
  unfold whoseT at h
  obtain ⟨h1, h2⟩ := nums_pi (by rfl) h
  simp only [List.cons.injEq, and_true] at h1
  have := flat_pi f_pi l m [] [] (by omega) (by rw [h2])
  exact this.1
theorem fbool_eq (b : Bool) : r38 (b, ()) = some (⟨(Lib.formatBool b).toArray⟩, ()) := rfl
set_option maxHeartbeats 4000000 in
set_option maxRecDepth 100000 in
theorem whose_eq (l : List DFea) (h : ∀ f ∈ l, WOk f) (hb : bSurv l ≤ 1048576) : r10 (l, ()) = some (⟨(whoseT l).toArray⟩, ()) := by
  unfold r10
  have hl0 := len_surv l
  have e0 := nums_eq [(l.length : Int)] [] (in64s_cons (in64_nat (by omega)) in64s_nil) (by simp)
  have e0' : r37 ((List.cons (Nat.cast (List.length l) : Int) (List.nil)), ()) ((), ((List.nil), ())) = some ((), ((), (toI (numsT [(l.length : Int)]), ()))) := e0
  simp only [e0', Option.bind_some]
  have hT := whoseT_len h hb
  have key : ∀ f ∈ l, bulkK kFea f + 1 ≤ bSurv l := fun f hf => by have := bulk_mem (bulkK kFea) l f hf; unfold bSurv; omega
  have hstep : ∀ (i : Nat) (e : List UInt8), i ≤ l.length → e.length ≤ 22 + (22 * 1048576) * i → e.length ≤ 22 + 22 * 1048576 * 1048576 → True := fun _ _ _ _ _ => trivial
  refine (congrArg (fun z => Option.bind z _) (loop_fold embS (fun d f => d ++ fT f) (fun i e => e.length ≤ 22 + 22 * ((l.take i).map (bulkK kFea)).sum) outS l (fun i f e hf hI => ?_) (fun e _ => ?_) (numsT [(l.length : Int)]) (by
    have := numsT_len (in64s_cons (in64_nat (show l.length ≤ 1048576 by omega)) in64s_nil)
    simp only [List.length_cons, List.length_nil] at this
    simp only [List.take_zero, List.map_nil, List.sum_nil]
    omega)).1).trans ?_
  · have hlt := lt_of_get hf
    have hmem := List.mem_of_getElem? hf
    have hw := h f hmem
    have hbf : bulkK kFea f ≤ 1048576 := by have := key f hmem; omega
    have hI' : e.length ≤ 22 + 22 * ((l.take i).map (bulkK kFea)).sum := hI
    have htake : ((l.take (i + 1)).map (bulkK kFea)).sum = ((l.take i).map (bulkK kFea)).sum + bulkK kFea f := by
      rw [List.take_add_one, hf]
      simp
    have hle : ((l.take (i + 1)).map (bulkK kFea)).sum ≤ (l.map (bulkK kFea)).sum := by
      have : l.take (i + 1) ++ l.drop (i + 1) = l := List.take_append_drop _ _
      calc ((l.take (i + 1)).map (bulkK kFea)).sum ≤ ((l.take (i + 1)).map (bulkK kFea)).sum + ((l.drop (i + 1)).map (bulkK kFea)).sum := Nat.le_add_right _ _
        _ = (l.map (bulkK kFea)).sum := by rw [← List.sum_append, ← List.map_append, this]
    have hb' : (l.map (bulkK kFea)).sum + 1 ≤ 1048576 := hb
    have hel : e.length ≤ 24000000 := by omega
    have hnl := numsT_len (heads_in hw hbf)
    have hpl := parts_len hw hbf
    have hal := atts_len hw hbf
    have hbfe := bulk_fea f
    have hlp := len_parts f.2.2.1
    have hla := len_atts f.2.2.2.1
    simp only [List.length_cons, List.length_nil] at hnl
    simp only [embS, dec_lt hlt, inB_lt hlt, Int.toNat_natCast, hf, cond_true, Option.bind_some]
    rw [nums_eq _ e (heads_in hw hbf) (by simp only [List.length_cons, List.length_nil]; omega), wrapS hlt (by omega)]
    simp only [Option.bind_some]
    refine ⟨?_, ?_⟩
    · have hd1 : (e ++ numsT [f.1, f.2.1, f.2.2.2.2.1, f.2.2.2.2.2.1, (f.2.2.1.length : Int), (f.2.2.2.1.length : Int)]).length ≤ 24000200 := by rw [List.length_append]; omega
      have hparts : ∀ p ∈ f.2.2.1, bPts p ≤ 1048576 := fun p hp => by
        have := bulk_mem (bulkK (.slice kPt)) f.2.2.1 p hp
        have h2 : bulkK (.slice kPt) p = bPts p := rfl
        unfold bParts at hbfe
        omega
      refine (congrArg (fun z => Option.bind z _) (loop_fold embS (fun d p => d ++ pT p) (fun j g => g.length ≤ 24000200 + 22 * ((f.2.2.1.take j).map (bulkK (.slice kPt))).sum) outS f.2.2.1 (fun j p g hp hJ => ?_) (fun g _ => ?_) _ (by simp only [List.take_zero, List.map_nil, List.sum_nil]; omega)).1).trans ?_
      · have hjt := lt_of_get hp
        have hpm := List.mem_of_getElem? hp
        have hpb := hparts p hpm
        have hpp := hw.pts p hpm
        have hJ' : g.length ≤ 24000200 + 22 * ((f.2.2.1.take j).map (bulkK (.slice kPt))).sum := hJ
        have htk : ((f.2.2.1.take (j + 1)).map (bulkK (.slice kPt))).sum = ((f.2.2.1.take j).map (bulkK (.slice kPt))).sum + bPts p := by
          rw [List.take_add_one, hp]
          simp
          rfl
        have hle2 : ((f.2.2.1.take (j + 1)).map (bulkK (.slice kPt))).sum ≤ (f.2.2.1.map (bulkK (.slice kPt))).sum := by
          have : f.2.2.1.take (j + 1) ++ f.2.2.1.drop (j + 1) = f.2.2.1 := List.take_append_drop _ _
          calc ((f.2.2.1.take (j + 1)).map (bulkK (.slice kPt))).sum ≤ ((f.2.2.1.take (j + 1)).map (bulkK (.slice kPt))).sum + ((f.2.2.1.drop (j + 1)).map (bulkK (.slice kPt))).sum := Nat.le_add_right _ _
            _ = (f.2.2.1.map (bulkK (.slice kPt))).sum := by rw [← List.sum_append, ← List.map_append, this]
        have hgl : g.length ≤ 48000000 := by unfold bParts at hbfe; omega
        have hppl := len_pts p
        simp only [embS, dec_lt hjt, inB_lt hjt, Int.toNat_natCast, hp, cond_true, Option.bind_some]
        rw [nums_eq [(p.length : Int)] g (in64s_cons (in64_nat (by omega)) in64s_nil) (by simp only [List.length_cons, List.length_nil]; omega), wrapS hjt (by omega)]
        simp only [Option.bind_some]
        have hnp := numsT_len (in64s_cons (in64_nat (show p.length ≤ 1048576 by omega)) in64s_nil)
        simp only [List.length_cons, List.length_nil] at hnp
        rw [(loop_fold embS (fun d q => d ++ numsT [q.1, q.2.1]) (fun k u => u.length ≤ 48000100 + 44 * k) outS p (fun k q u hq hK => ?_) (fun u _ => ?_) (g ++ numsT [(p.length : Int)]) (by rw [List.length_append]; omega)).1]
        · rw [fold_flat]
          simp only [Option.bind_some, sumE]
          have e1 : g ++ numsT [(p.length : Int)] ++ p.flatMap (fun q => numsT [q.1, q.2.1]) = g ++ pT p := by unfold pT; rw [List.append_assoc]
          rw [e1]
          refine ⟨by first | trivial | rfl, ?_⟩
          show (g ++ pT p).length ≤ 24000200 + 22 * ((f.2.2.1.take (j + 1)).map (bulkK (.slice kPt))).sum
          have := pT_len hpp hpb
          rw [List.length_append, htk]
          omega
        · have hqt := lt_of_get hq
          have hqi := hpp q (List.mem_of_getElem? hq)
          have hK' : u.length ≤ 48000100 + 44 * k := hK
          have hin := in64s_cons hqi.1 (in64s_cons hqi.2 in64s_nil)
          simp only [embS, dec_lt hqt, inB_lt hqt, Int.toNat_natCast, hq, cond_true, Option.bind_some]
          rw [nums_eq [q.1, q.2.1] u hin (by simp only [List.length_cons, List.length_nil]; omega), wrapS hqt (by omega)]
          simp only [Option.bind_some]
          refine ⟨by first | trivial | rfl, ?_⟩
          have := numsT_len hin
          simp only [List.length_cons, List.length_nil] at this
          show (u ++ numsT [q.1, q.2.1]).length ≤ _
          rw [List.length_append]
          omega
        · simp only [embS, dec_nlt, cond_false]
      · simp only [embS, dec_nlt, cond_false]
      · rw [fold_flat]
        simp only [Option.bind_some, sumE]
        have hd2 : (e ++ numsT [f.1, f.2.1, f.2.2.2.2.1, f.2.2.2.2.2.1, (f.2.2.1.length : Int), (f.2.2.2.1.length : Int)] ++ f.2.2.1.flatMap pT).length ≤ 48000200 := by
          rw [List.length_append]
          unfold bParts at hbfe
          omega
        refine (congrArg (fun z => Option.bind z _) (loop_fold embS (fun d p => d ++ aT p) (fun j g => g.length ≤ 48000200 + 22 * ((f.2.2.2.1.take j).map (bulkK kAtt)).sum) outS f.2.2.2.1 (fun j a g ha hJ => ?_) (fun g _ => ?_) _ (by simp only [List.take_zero, List.map_nil, List.sum_nil]; omega)).1).trans ?_
        · have hjt := lt_of_get ha
          have ham := List.mem_of_getElem? ha
          have hai := hw.att a ham
          have hJ' : g.length ≤ 48000200 + 22 * ((f.2.2.2.1.take j).map (bulkK kAtt)).sum := hJ
          have htk : ((f.2.2.2.1.take (j + 1)).map (bulkK kAtt)).sum = ((f.2.2.2.1.take j).map (bulkK kAtt)).sum + bulkK kAtt a := by
            rw [List.take_add_one, ha]
            simp
          have hle2 : ((f.2.2.2.1.take (j + 1)).map (bulkK kAtt)).sum ≤ (f.2.2.2.1.map (bulkK kAtt)).sum := by
            have : f.2.2.2.1.take (j + 1) ++ f.2.2.2.1.drop (j + 1) = f.2.2.2.1 := List.take_append_drop _ _
            calc ((f.2.2.2.1.take (j + 1)).map (bulkK kAtt)).sum ≤ ((f.2.2.2.1.take (j + 1)).map (bulkK kAtt)).sum + ((f.2.2.2.1.drop (j + 1)).map (bulkK kAtt)).sum := Nat.le_add_right _ _
              _ = (f.2.2.2.1.map (bulkK kAtt)).sum := by rw [← List.sum_append, ← List.map_append, this]
          have hab : bulkK kAtt a ≤ 1048576 := by unfold bAtts at hbfe; omega
          have hgl : g.length ≤ 72000300 := by unfold bAtts at hbfe; omega
          have hae := bulk_att a
          have hin := in64s_cons (in64_nat (show a.1.size ≤ 1048576 by omega)) (in64s_cons hai.1 (in64s_cons hai.2 (in64s_cons (in64_nat (show a.2.1.2.2.1.size ≤ 1048576 by omega)) in64s_nil)))
          have hnn := numsT_len hin
          have hfb := fbool_len a.2.1.2.2.2.1
          simp only [List.length_cons, List.length_nil] at hnn
          simp only [embS, dec_lt hjt, inB_lt hjt, Int.toNat_natCast, ha, cond_true, Option.bind_some]
          rw [nums_eq _ g hin (by simp only [List.length_cons, List.length_nil]; omega), wrapS hjt (by omega)]
          have ek : a.1 = ⟨(ofS a.1).toArray⟩ := rfl
          have ev : a.2.1.2.2.1 = ⟨(ofS a.2.1.2.2.1).toArray⟩ := rfl
          have hkl : (ofS a.1).length = a.1.size := ofS_len _
          have hvl : (ofS a.2.1.2.2.1).length = a.2.1.2.2.1.size := ofS_len _
          have hc1 : decide (9223372036854775807 < a.1.size + a.2.1.2.2.1.size) = false := big (by omega)
          have happ : a.1 ++ a.2.1.2.2.1 = ⟨(ofS a.1 ++ ofS a.2.1.2.2.1).toArray⟩ := ba_app (ofS a.1) (ofS a.2.1.2.2.1)
          have efb : r38 (a.2.1.2.2.2.1, ()) = some (⟨(Lib.formatBool a.2.1.2.2.2.1).toArray⟩, ()) := fbool_eq _
          simp only [Option.bind_some, hc1, cond_false, happ]
          rw [efb]
          simp only [Option.bind_some, ba_app, size_mk]
          rw [big (by simp only [List.length_append]; omega)]
          simp only [cond_false]
          rw [wstr _ _ (by simp only [List.length_append]; omega)]
          simp only [Option.bind_some]
          have e2 : g ++ numsT [(a.1.size : Int), a.2.1.1, a.2.1.2.1, (a.2.1.2.2.1.size : Int)] ++ (ofS a.1 ++ ofS a.2.1.2.2.1 ++ Lib.formatBool a.2.1.2.2.2.1) = g ++ aT a := by unfold aT; rw [List.append_assoc]
          rw [e2]
          refine ⟨by first | trivial | rfl, ?_⟩
          have := aT_len hai hab
          show (g ++ aT a).length ≤ 48000200 + 22 * ((f.2.2.2.1.take (j + 1)).map (bulkK kAtt)).sum
          rw [List.length_append, htk]
          omega
        · simp only [embS, dec_nlt, cond_false]
        · rw [fold_flat]
          simp only [Option.bind_some, sumE]
          show some (Sum.inl (embS ((i : Int) + 1) _)) = some (Sum.inl (embS ((i : Int) + 1) _))
          congr 3
          unfold fT
          simp only [List.append_assoc]
    · show (e ++ fT f).length ≤ 22 + 22 * ((l.take (i + 1)).map (bulkK kFea)).sum
      have := fT_len hw hbf
      rw [List.length_append, htake]
      omega
  · simp only [embS, dec_nlt, cond_false]
  · rw [fold_flat]
    simp only [Option.bind_some, sumE]
    rw [show numsT [(l.length : Int)] ++ l.flatMap fT = whoseT l from rfl, bstr _ (by omega)]
    rfl
end Go.Proofs.YtgabpbnndikheaaGreatDoor.I

namespace Go.Proofs.YtgabpbnndikheaaGreatDoor.I
open Go.RowKit
set_option linter.unusedVariables false
set_option linter.constructorNameAsVariable false
theorem foldE_all {α O : Type} (F : α → Bool) (o1 o2 : O) : ∀ (l : List α), foldE (fun (_ : Unit) a => cond (F a) (.inl ()) (.inr o1)) (fun _ => o2) l () = cond (l.all F) o2 o1
  | [] => rfl
  | a :: l => by
    have ih := foldE_all F o1 o2 l
    simp only [foldE, List.all_cons]
    cases F a with
    | true => simpa using ih
    | false => simp
theorem eq_loop {α D O : Type} {step : D → Option (D ⊕ O)} (emb : Int → D) (eqv : α → α → Bool) (xs ys : List α) (hl : xs.length = ys.length) (o1 o2 : O)
    (hin : ∀ (i : Nat) a b, xs[i]? = some a → ys[i]? = some b → step (emb i) = some (cond (eqv a b) (.inl (emb ((i : Int) + 1))) (.inr o1)))
    (hend : step (emb (xs.length : Int)) = some (.inr o2)) : loop step (emb 0) = some (cond ((xs.zip ys).all (fun p => eqv p.1 p.2)) o2 o1) := by
  have hz : (xs.zip ys).length = xs.length := by rw [List.length_zip]; omega
  have := loop_exit (step := step) (fun i (_ : Unit) => emb i) (fun _ (p : α × α) => cond (eqv p.1 p.2) (.inl ()) (.inr o1)) (fun _ _ => True) (fun _ => o2) (xs.zip ys) (fun i p s hp _ => ?_) (fun s _ => ?_) () trivial
  · rw [this, foldE_all (fun p : α × α => eqv p.1 p.2)]
  · obtain ⟨h1, h2⟩ := List.getElem?_zip_eq_some.1 hp
    refine ⟨?_, fun _ _ => trivial⟩
    rw [hin i p.1 p.2 h1 h2]
    cases eqv p.1 p.2 <;> rfl
  · rw [hz, hend]
theorem zip_all {α : Type} (eqv : α → α → Bool) (he : ∀ a b, eqv a b = true ↔ a = b) : ∀ (xs ys : List α), xs.length = ys.length → ((xs.zip ys).all (fun p => eqv p.1 p.2) = true ↔ xs = ys)
  | [], [], _ => by simp
  | [], b :: ys, h => by simp at h
  | a :: xs, [], h => by simp at h
  | a :: xs, b :: ys, h => by
    have ih := zip_all eqv he xs ys (by simpa using h)
    simp only [List.zip_cons_cons, List.all_cons, Bool.and_eq_true, he, ih, List.cons.injEq]
def eqPt (a b : DPt) : Bool := decide (a.1 = b.1) && decide (a.2.1 = b.2.1)
theorem eqPt_iff (a b : DPt) : eqPt a b = true ↔ a = b := by
  obtain ⟨x, y, ⟨⟩⟩ := a
  obtain ⟨x', y', ⟨⟩⟩ := b
  simp [eqPt]
def eqAt (a b : DAtt) : Bool := decide (a.1 = b.1) && (decide (a.2.1.1 = b.2.1.1) && (decide (a.2.1.2.1 = b.2.1.2.1) && (decide (a.2.1.2.2.1 = b.2.1.2.2.1) && decide (a.2.1.2.2.2.1 = b.2.1.2.2.2.1))))
theorem eqAt_iff (a b : DAtt) : eqAt a b = true ↔ a = b := by
  obtain ⟨k, ⟨v1, v2, v3, v4, ⟨⟩⟩, ⟨⟩⟩ := a
  obtain ⟨k', ⟨w1, w2, w3, w4, ⟨⟩⟩, ⟨⟩⟩ := b
  simp [eqAt]
instance decAtt : DecidableEq DAtt := fun a b => decidable_of_iff (eqAt a b = true) (eqAt_iff a b)
theorem len_ne {α : Type} [DecidableEq α] {xs ys : List α} (h : ¬ (xs.length : Int) = (ys.length : Int)) : decide (xs = ys) = false := decide_eq_false (fun e => h (by rw [e]))
abbrev embU (i : Int) : (Int × Unit) × Unit := ((i, ()), ())
theorem eqPts_eq (xs ys : List DPt) (hl : xs.length ≤ 1048576) : r44 (xs, (ys, ())) = some (decide (xs = ys), ()) := by
  unfold r44
  by_cases hq : (xs.length : Int) = (ys.length : Int)
  · have hq' : xs.length = ys.length := by omega
    simp only [decide_eq_true hq, Bool.not_true, cond_false]
    refine (congrArg (fun z => Option.bind z _) (eq_loop embU eqPt xs ys hq' (Sum.inl ((false, ()), ())) (Sum.inr (Sum.inl ((), ()))) (fun i a b ha hb => ?_) ?_)).trans ?_
    · have hlt := lt_of_get ha
      have hlt2 := lt_of_get hb
      simp only [embU, dec_lt hlt, inB_lt hlt, inB_lt hlt2, Int.toNat_natCast, ha, hb, cond_true, Option.bind_some]
      rw [wrapS hlt (by omega)]
      show cond (!eqPt a b) _ _ = _
      cases eqPt a b <;> rfl
    · simp only [embU, dec_nlt, cond_false]
    · simp only [Option.bind_some]
      by_cases h : xs = ys
      · rw [(zip_all eqPt eqPt_iff xs ys hq').2 h, decide_eq_true h]; rfl
      · rw [Bool.eq_false_iff.2 (fun hh => h ((zip_all eqPt eqPt_iff xs ys hq').1 hh)), decide_eq_false h]; rfl
  · simp only [decide_eq_false hq, Bool.not_false, cond_true]
    rw [len_ne hq]
theorem eqAtts_eq (xs ys : List DAtt) (hl : xs.length ≤ 1048576) : r42 (xs, (ys, ())) = some (decide (xs = ys), ()) := by
  unfold r42
  by_cases hq : (xs.length : Int) = (ys.length : Int)
  · have hq' : xs.length = ys.length := by omega
    simp only [decide_eq_true hq, Bool.not_true, cond_false]
    refine (congrArg (fun z => Option.bind z _) (eq_loop embU eqAt xs ys hq' (Sum.inl ((false, ()), ())) (Sum.inr (Sum.inl ((), ()))) (fun i a b ha hb => ?_) ?_)).trans ?_
    · have hlt := lt_of_get ha
      have hlt2 := lt_of_get hb
      simp only [embU, dec_lt hlt, inB_lt hlt, inB_lt hlt2, Int.toNat_natCast, ha, hb, cond_true, Option.bind_some]
      rw [wrapS hlt (by omega)]
      show cond (!eqAt a b) _ _ = _
      cases eqAt a b <;> rfl
    · simp only [embU, dec_nlt, cond_false]
    · simp only [Option.bind_some]
      by_cases h : xs = ys
      · rw [(zip_all eqAt eqAt_iff xs ys hq').2 h, decide_eq_true h]; rfl
      · rw [Bool.eq_false_iff.2 (fun hh => h ((zip_all eqAt eqAt_iff xs ys hq').1 hh)), decide_eq_false h]; rfl
  · simp only [decide_eq_false hq, Bool.not_false, cond_true]
    rw [len_ne hq]
theorem eqParts_eq (xs ys : List (List DPt)) (hl : xs.length ≤ 1048576) (hp : ∀ p ∈ xs, p.length ≤ 1048576) : r43_44 (xs, (ys, ((), ()))) = some (decide (xs = ys), ()) := by
  unfold r43_44
  have hiff : ∀ a b : List DPt, decide (a = b) = true ↔ a = b := fun a b => by simp
  by_cases hq : (xs.length : Int) = (ys.length : Int)
  · have hq' : xs.length = ys.length := by omega
    simp only [decide_eq_true hq, Bool.not_true, cond_false]
    refine (congrArg (fun z => Option.bind z _) (eq_loop embU (fun a b => decide (a = b)) xs ys hq' (Sum.inl ((false, ()), ())) (Sum.inr (Sum.inl ((), ()))) (fun i a b ha hb => ?_) ?_)).trans ?_
    · have hlt := lt_of_get ha
      have hlt2 := lt_of_get hb
      simp only [embU, dec_lt hlt, inB_lt hlt, inB_lt hlt2, Int.toNat_natCast, ha, hb, cond_true, Option.bind_some]
      rw [wrapS hlt (by omega), eqPts_eq a b (hp a (List.mem_of_getElem? ha))]
      simp only [Option.bind_some]
      cases decide (a = b) <;> rfl
    · simp only [embU, dec_nlt, cond_false]
    · simp only [Option.bind_some]
      by_cases h : xs = ys
      · rw [(zip_all (fun a b => decide (a = b)) hiff xs ys hq').2 h, decide_eq_true h]; rfl
      · rw [Bool.eq_false_iff.2 (fun hh => h ((zip_all (fun a b => decide (a = b)) hiff xs ys hq').1 hh)), decide_eq_false h]; rfl
  · simp only [decide_eq_false hq, Bool.not_false, cond_true]
    rw [len_ne hq]
def eqFe (a b : DFea) : Bool := decide (a.1 = b.1) && (decide (a.2.1 = b.2.1) && (decide (a.2.2.1 = b.2.2.1) && (decide (a.2.2.2.1 = b.2.2.2.1) && (decide (a.2.2.2.2.1 = b.2.2.2.2.1) && decide (a.2.2.2.2.2.1 = b.2.2.2.2.2.1)))))
theorem eqFe_iff (a b : DFea) : eqFe a b = true ↔ a = b := by
  obtain ⟨i, k, ps, ats, fr, up, ⟨⟩⟩ := a
  obtain ⟨i', k', ps', ats', fr', up', ⟨⟩⟩ := b
  simp [eqFe]
instance decFea : DecidableEq DFea := fun a b => decidable_of_iff (eqFe a b = true) (eqFe_iff a b)
structure Few (f : DFea) : Prop where
  parts : f.2.2.1.length ≤ 1048576
  pts : ∀ p ∈ f.2.2.1, p.length ≤ 1048576
  atts : f.2.2.2.1.length ≤ 1048576
theorem few_of {f : DFea} (hb : bulkK kFea f ≤ 1048576) : Few f := by
  rw [bulk_fea] at hb
  have h1 := len_parts f.2.2.1
  have h2 := len_atts f.2.2.2.1
  refine ⟨by omega, fun p hp => ?_, by omega⟩
  have := bulk_mem (bulkK (.slice kPt)) f.2.2.1 p hp
  have h3 : bulkK (.slice kPt) p = bPts p := rfl
  have h4 := len_pts p
  unfold bParts at hb
  omega
theorem same_eq (a b : DFea) (h : Few a) : r15 (a, (b, ())) = some (decide (a = b), ()) := by
  unfold r15
  have e1 : r42 (a.2.2.2.1, (b.2.2.2.1, ())) = some (decide (a.2.2.2.1 = b.2.2.2.1), ()) := eqAtts_eq _ _ h.atts
  have e2 : r43_44 (a.2.2.1, (b.2.2.1, ((), ()))) = some (decide (a.2.2.1 = b.2.2.1), ()) := eqParts_eq _ _ h.parts h.pts
  simp only [e1, e2, Option.bind_some]
  obtain ⟨i, k, ps, ats, fr, up, ⟨⟩⟩ := a
  obtain ⟨i', k', ps', ats', fr', up', ⟨⟩⟩ := b
  simp only
  by_cases k1 : i = i' <;> by_cases k2 : k = k' <;> by_cases k3 : fr = fr' <;> by_cases k4 : up = up' <;> by_cases k5 : ats = ats' <;> by_cases k6 : ps = ps' <;> simp [k1, k2, k3, k4, k5, k6]
theorem one_surv (f : DFea) : bSurv [f] = bulkK kFea f + 1 := by simp [bSurv]
theorem mk_inj {a b : List UInt8} (h : (⟨a.toArray⟩ : ByteArray) = ⟨b.toArray⟩) : a = b := by
  have := congrArg ofS h
  exact this
theorem rsame_eq (a b : DFea) (ha : WOk a) (hb : WOk b) (ha2 : bulkK kFea a + 1 ≤ 1048576) (hb2 : bulkK kFea b + 1 ≤ 1048576) : r16 (a, (b, ())) = some (decide (a = b), ()) := by
  unfold r16
  have one : ∀ f : DFea, WOk f → bulkK kFea f + 1 ≤ 1048576 → r10 ([f], ()) = some (⟨(whoseT [f]).toArray⟩, ()) := fun f hf hb => whose_eq [f] (fun g hg => by simp only [List.mem_singleton] at hg; subst hg; exact hf) (by rw [one_surv]; exact hb)
  have e1 : r10 ((List.cons (a.1, (a.2.1, (a.2.2.1, (a.2.2.2.1, (a.2.2.2.2.1, (a.2.2.2.2.2.1, ())))))) (List.nil)), ()) = some (⟨(whoseT [a]).toArray⟩, ()) := one a ha ha2
  have e2 : r10 ((List.cons (b.1, (b.2.1, (b.2.2.1, (b.2.2.2.1, (b.2.2.2.2.1, (b.2.2.2.2.2.1, ())))))) (List.nil)), ()) = some (⟨(whoseT [b]).toArray⟩, ()) := one b hb hb2
  simp only [e1, e2, Option.bind_some]
  by_cases h : a = b
  · subst h; simp
  · have : ¬ (⟨(whoseT [a]).toArray⟩ : ByteArray) = ⟨(whoseT [b]).toArray⟩ := fun he => h (by
      have := whose_inj (mk_inj he)
      simpa using this)
    rw [decide_eq_false this, decide_eq_false h]
end Go.Proofs.YtgabpbnndikheaaGreatDoor.I

namespace Go.Proofs.YtgabpbnndikheaaGreatDoor.I
open Go.RowKit
set_option linter.unusedVariables false
set_option linter.constructorNameAsVariable false
theorem set_self {α : Type} : ∀ {xs : List α} {i : Nat} {a : α}, xs[i]? = some a → xs.set i a = xs
  | [], i, a, h => by simp at h
  | x :: xs, 0, a, h => by simp at h; subst h; rfl
  | x :: xs, i + 1, a, h => by
    have := set_self (xs := xs) (i := i) (a := a) (by simpa using h)
    simp [this]
theorem fitsN {n m : Nat} (h : n ≤ 1048577) (hm : m ≤ 80) : fits n m = true := by
  unfold fits
  have : n * m ≤ 1048577 * 80 := Nat.mul_le_mul h hm
  simp
  omega
theorem fold_id {α S : Type} : ∀ (l : List α) (s : S), l.foldl (fun s _ => s) s = s
  | [], _ => rfl
  | _ :: l, s => fold_id l s
theorem fold_filter {α : Type} (p : α → Bool) : ∀ (l : List α) (d : List α), l.foldl (fun d a => if p a = true then d ++ [a] else d) d = d ++ l.filter p
  | [], d => by simp
  | a :: l, d => by
    rw [List.foldl_cons, fold_filter p l, List.filter_cons]
    split <;> simp
theorem fold_snoc {α : Type} : ∀ (l : List α) (d : List α), l.foldl (fun d a => d ++ [a]) d = d ++ l
  | [], d => by simp
  | a :: l, d => by rw [List.foldl_cons, fold_snoc l]; simp
@[reducible] def embC (i : Int) (s : List (List DPt)) : (Int × Unit) × (List (List DPt) × Unit) := ((i, ()), (s, ()))
theorem copy_eq (f : DFea) (h : Few f) : r14 (f, ()) = some (f, ()) := by
  unfold r14
  have hp := h.parts
  have ha := h.atts
  have e1 : clonePPR (f.2.2.1, ()) = some f.2.2.1 := by
    unfold clonePPR
    have : fits (List.length (α := List DPt) f.2.2.1) 24 = true := fitsN (by omega) (by omega)
    simp only [this, cond_true]
  have e2 : cloneAtR (f.2.2.2.1, ()) = some f.2.2.2.1 := by
    unfold cloneAtR
    have : fits (List.length (α := DAtt) f.2.2.2.1) 56 = true := fitsN (by omega) (by omega)
    simp only [this, cond_true]
  simp only [e1, e2, Option.bind_some]
  refine (congrArg (fun z => Option.bind z _) (loop_fold embC (fun s _ => s) (fun _ s => s = f.2.2.1) (fun s => Sum.inl ((), (s, ()))) f.2.2.1 (fun i p s hpi hs => ?_) (fun s hs => ?_) f.2.2.1 rfl).1).trans ?_
  · subst hs
    have hlt := lt_of_get hpi
    have hpl := h.pts p (List.mem_of_getElem? hpi)
    have e3 : clonePtR (p, ()) = some p := by
      unfold clonePtR
      have : fits (List.length (α := DPt) p) 16 = true := fitsN (by omega) (by omega)
      simp only [this, cond_true]
    simp only [embC, dec_lt hlt, inB_lt hlt, Int.toNat_natCast, hpi, cond_true, Option.bind_some, e3, set_self hpi]
    rw [wrapS hlt (by omega)]
    exact ⟨by first | trivial | rfl, by first | trivial | rfl⟩
  · subst hs
    simp only [embC, dec_nlt, cond_false]
  · rw [fold_id]
    rfl
@[reducible] def embF (i : Int) (d : List DFea) : (List DFea × Int × Unit) × Unit := ((d, (i, ())), ())
@[reducible] def outF (d : List DFea) : ((List DFea × Unit) × Unit) ⊕ Empty := Sum.inl ((d, ()), ())
theorem copyAll_eq (l : List DFea) (hl : l.length ≤ 1048576) (h : ∀ f ∈ l, Few f) : r11 (l, ()) = some (l, ()) := by
  unfold r11
  refine (congrArg (fun z => Option.bind z _) (loop_fold embF (fun d f => d ++ [f]) (fun i d => d.length ≤ i) outF l (fun i f d hf hI => ?_) (fun d _ => ?_) [] (by simp)).1).trans ?_
  · have hlt := lt_of_get hf
    have hI' : d.length ≤ i := hI
    have e : r14 ((f.1, (f.2.1, (f.2.2.1, (f.2.2.2.1, (f.2.2.2.2.1, (f.2.2.2.2.2.1, ())))))), ()) = some (f, ()) := copy_eq f (h f (List.mem_of_getElem? hf))
    simp only [embF, dec_lt hlt, inB_lt hlt, Int.toNat_natCast, hf, cond_true, Option.bind_some, e]
    rw [wrapS hlt (by omega), fitsN (by simp only [List.length_cons, List.length_nil]; omega) (by omega)]
    refine ⟨rfl, ?_⟩
    show (d ++ [f]).length ≤ i + 1
    rw [List.length_append]
    simp only [List.length_cons, List.length_nil]
    omega
  · simp only [embF, dec_nlt, cond_false]
  · rw [fold_snoc]
    rfl
def atB (time : Int) (f : DFea) : Bool := decide (f.2.2.2.2.1 ≤ time) && decide (time < f.2.2.2.2.2.1)
theorem at_eq (l : List DFea) (time : Int) (hl : l.length ≤ 1048576) (h : ∀ f ∈ l, Few f) : r20 (l, (time, ())) = some (l.filter (atB time), ()) := by
  unfold r20
  refine (congrArg (fun z => Option.bind z _) (loop_fold embF (fun d f => if atB time f = true then d ++ [f] else d) (fun i d => d.length ≤ i) outF l (fun i f d hf hI => ?_) (fun d _ => ?_) [] (by simp)).1).trans ?_
  · have hlt := lt_of_get hf
    have hI' : d.length ≤ i := hI
    have e : r14 ((f.1, (f.2.1, (f.2.2.1, (f.2.2.2.1, (f.2.2.2.2.1, (f.2.2.2.2.2.1, ())))))), ()) = some (f, ()) := copy_eq f (h f (List.mem_of_getElem? hf))
    simp only [embF, dec_lt hlt, inB_lt hlt, Int.toNat_natCast, hf, cond_true, Option.bind_some, e]
    rw [wrapS hlt (by omega), fitsN (by simp only [List.length_cons, List.length_nil]; omega) (by omega)]
    unfold atB
    cases k1 : decide (f.2.2.2.2.1 ≤ time) with
    | false => exact ⟨rfl, by simp; omega⟩
    | true =>
      cases k2 : decide (time < f.2.2.2.2.2.1) with
      | false => exact ⟨rfl, by simp; omega⟩
      | true => exact ⟨rfl, by simp; omega⟩
  · simp only [embF, dec_nlt, cond_false]
  · rw [fold_filter]
    rfl
def nilV : DVal := (0, (0, (⟨List.toArray []⟩, (false, ()))))
def getV (l : List DAtt) (key : ByteArray) : DVal := match l.find? (fun a => decide (a.1 = key)) with
  | some a => a.2.1
  | none => nilV
theorem get_eq (f : DFea) (key : ByteArray) (h : Few f) : r12 (f, (key, ())) = some (getV f.2.2.2.1 key, ()) := by
  unfold r12
  have ha := h.atts
  refine (congrArg (fun z => Option.bind z _) (loop_exit (fun i (_ : Unit) => (((i : Int), ()), ())) (fun _ (a : DAtt) => cond (decide (a.1 = key)) (.inr (Sum.inl (a.2.1, ()))) (.inl ())) (fun _ _ => True) (fun _ => Sum.inr (Sum.inl ((), ()))) f.2.2.2.1 (fun i a s hi _ => ?_) (fun s _ => ?_) () trivial)).trans ?_
  · have hlt := lt_of_get hi
    refine ⟨?_, fun _ _ => trivial⟩
    simp only [dec_lt hlt, inB_lt hlt, Int.toNat_natCast, hi, cond_true, Option.bind_some]
    rw [wrapS hlt (by omega)]
    cases decide (a.1 = key) <;> rfl
  · simp only [dec_nlt, cond_false]
  · simp only [Option.bind_some]
    have key2 : ∀ (l : List DAtt), foldE (O := ((DVal × Unit) ⊕ ((Unit × Unit) ⊕ Empty))) (fun (_ : Unit) (a : DAtt) => cond (decide (a.1 = key)) (.inr (Sum.inl (a.2.1, ()))) (.inl ())) (fun _ => Sum.inr (Sum.inl ((), ()))) l () = match l.find? (fun a => decide (a.1 = key)) with
        | some a => Sum.inl (a.2.1, ())
        | none => Sum.inr (Sum.inl ((), ())) := by
      intro l
      induction l with
      | nil => rfl
      | cons a l ih =>
        simp only [foldE, List.find?_cons]
        cases decide (a.1 = key) with
        | true => rfl
        | false => exact ih
    rw [key2]
    unfold getV
    cases f.2.2.2.1.find? (fun a => decide (a.1 = key)) with
    | none => rfl
    | some a => rfl
/-- From the end to the front. -/
theorem loop_down {α S D O : Type} {step : D → Option (D ⊕ O)} (emb : Int → S → D) (f : S → α → S) (out : S → O) (xs : List α)
    (hin : ∀ (i : Nat) a s, xs[i]? = some a → step (emb i s) = some (.inl (emb ((i : Int) - 1) (f s a)))) (hend : ∀ s, step (emb (-1) s) = some (.inr (out s))) (s : S) :
    loop step (emb ((xs.length : Int) - 1) s) = some (out (xs.foldr (fun a s => f s a) s)) := by
  have key : ∀ (k : Nat) (s : S), k ≤ xs.length → loop step (emb ((k : Int) - 1) s) = some (out ((xs.take k).foldr (fun a s => f s a) s)) := by
    intro k
    induction k with
    | zero =>
      intro s _
      rw [loop_eq, show ((0 : Nat) : Int) - 1 = -1 by omega, hend]
      rfl
    | succ k ih =>
      intro s hk
      have ha : xs[k]? = some xs[k] := List.getElem?_eq_getElem (by omega)
      rw [loop_eq, show ((k + 1 : Nat) : Int) - 1 = (k : Int) by omega, hin k _ s ha]
      simp only
      have e : xs.take (k + 1) = xs.take k ++ [xs[k]] := by rw [List.take_add_one, ha]; rfl
      rw [ih _ (by omega), e, List.foldr_append]
      rfl
  rw [key xs.length s (Nat.le_refl _), List.take_length]
@[reducible] def embG (i : Int) (v : DVal) : (Int × DVal) × Unit := ((i, (v.1, (v.2.1, (v.2.2.1, (v.2.2.2.1, ()))))), ())
theorem got_eq (f : DFea) (key : ByteArray) (h : Few f) : r13 (f, (key, ())) = some (getV f.2.2.2.1 key, ()) := by
  unfold r13
  have ha := h.atts
  have hw : IntKind.wrap .i64 ((f.2.2.2.1.length : Int) - 1) = (f.2.2.2.1.length : Int) - 1 := wrap64 (by omega) (by omega)
  rw [hw]
  refine (congrArg (fun z => Option.bind z _) (loop_down embG (fun v a => cond (decide (a.1 = key)) a.2.1 v) (fun v => Sum.inl ((v.1, (v.2.1, (v.2.2.1, (v.2.2.2.1, ())))), ())) f.2.2.2.1 (fun i a s hi => ?_) (fun s => ?_) nilV)).trans ?_
  · have hlt := lt_of_get hi
    have h0 : decide ((0 : Int) ≤ (i : Int)) = true := by simp
    simp only [embG, h0, inB_lt hlt, Int.toNat_natCast, hi, cond_true, Option.bind_some]
    rw [wrap64 (by omega) (by omega)]
    cases decide (a.1 = key) <;> rfl
  · rfl
  · have hf : ∀ (l : List DAtt), l.foldr (fun a v => cond (decide (a.1 = key)) a.2.1 v) nilV = getV l key := by
      intro l
      induction l with
      | nil => rfl
      | cons a l ih =>
        rw [List.foldr_cons, ih]
        unfold getV
        rw [List.find?_cons]
        cases decide (a.1 = key) <;> rfl
    rw [hf]
    rfl
end Go.Proofs.YtgabpbnndikheaaGreatDoor.I

namespace Go.Proofs.YtgabpbnndikheaaGreatDoor.I
open Go.RowKit
set_option linter.unusedVariables false
theorem loop_rule {D O : Type} {step : D → Option (D ⊕ O)} (μ : D → Nat) (Inv : D → Prop) (Post : O → Prop)
    (h : ∀ d, Inv d → (∃ d', step d = some (.inl d') ∧ Inv d' ∧ μ d' < μ d) ∨ ∃ o, step d = some (.inr o) ∧ Post o) : ∀ d, Inv d → ∃ o, loop step d = some o ∧ Post o := by
  have key : ∀ (n : Nat) (d : D), μ d = n → Inv d → ∃ o, loop step d = some o ∧ Post o := by
    intro n
    induction n using Nat.strongRecOn with
    | _ n ih =>
      intro d hd hI
      rcases h d hI with ⟨d', h1, h2, h3⟩ | ⟨o, h1, h2⟩
      · rw [loop_eq, h1]
        exact ih (μ d') (by omega) d' rfl h2
      · rw [loop_eq, h1]
        exact ⟨o, rfl, h2⟩
  exact fun d => key _ d rfl
theorem loop_up {S D O : Type} {step : D → Option (D ⊕ O)} (emb : Int → S → D) (n : Nat) (Inv : Nat → S → Prop) (Post : O → Prop)
    (hin : ∀ (i : Nat) (s : S), i < n → Inv i s → (∃ s', step (emb (i : Int) s) = some (.inl (emb ((i : Int) + 1) s')) ∧ Inv (i + 1) s') ∨ ∃ o, step (emb (i : Int) s) = some (.inr o) ∧ Post o)
    (hend : ∀ s, Inv n s → ∃ o, step (emb (n : Int) s) = some (.inr o) ∧ Post o) : ∀ (k : Nat) (s : S), k ≤ n → Inv k s → ∃ o, loop step (emb (k : Int) s) = some o ∧ Post o := by
  have key : ∀ (m k : Nat) (s : S), n - k = m → k ≤ n → Inv k s → ∃ o, loop step (emb (k : Int) s) = some o ∧ Post o := by
    intro m
    induction m with
    | zero =>
      intro k s hm hk hI
      have : k = n := by omega
      subst this
      obtain ⟨o, h1, h2⟩ := hend s hI
      rw [loop_eq, h1]
      exact ⟨o, rfl, h2⟩
    | succ m ih =>
      intro k s hm hk hI
      rcases hin k s (by omega) hI with ⟨s', h1, h2⟩ | ⟨o, h1, h2⟩
      · rw [loop_eq, h1]
        exact ih (k + 1) s' (by omega) (by omega) h2
      · rw [loop_eq, h1]
        exact ⟨o, rfl, h2⟩
  exact fun k s => key _ k s rfl
theorem bind_loop {D O R : Type} {step : D → Option (D ⊕ O)} {d : D} {f : O → Option R} {Post : O → Prop} {y : R} (h : ∃ o, loop step d = some o ∧ Post o) (k : ∀ o, Post o → f o = some y) : Option.bind (loop step d) f = some y := by
  obtain ⟨o, h1, h2⟩ := h
  rw [h1]
  exact k o h2
theorem bind_loopQ {D O R : Type} {step : D → Option (D ⊕ O)} {d : D} {f : O → Option R} {Post : O → Prop} (Q : Option R → Prop) (h : ∃ o, loop step d = some o ∧ Post o) (k : ∀ o, Post o → Q (f o)) : Q (Option.bind (loop step d) f) := by
  obtain ⟨o, h1, h2⟩ := h
  rw [h1]
  exact k o h2
/-- From the first element on; only one way out. -/
theorem loop_all {S D O R : Type} {step : D → Option (D ⊕ O)} {f : O → Option R} {y : R} (emb : Int → S → D) (n : Nat) (Inv : Nat → S → Prop) (out : S → O)
    (hin : ∀ (i : Nat) (s : S), i < n → Inv i s → ∃ s', step (emb (i : Int) s) = some (.inl (emb ((i : Int) + 1) s')) ∧ Inv (i + 1) s')
    (hend : ∀ s, Inv n s → step (emb (n : Int) s) = some (.inr (out s))) (s0 : S) (h0 : Inv 0 s0) (k : ∀ s, Inv n s → f (out s) = some y) : Option.bind (loop step (emb 0 s0)) f = some y := by
  have h := loop_up (step := step) emb n Inv (fun o => ∃ s, Inv n s ∧ o = out s) (fun i s hi hs => .inl (hin i s hi hs)) (fun s hs => ⟨_, hend s hs, s, hs, rfl⟩) 0 s0 (Nat.zero_le _) h0
  refine bind_loop h ?_
  rintro o ⟨s, hs, rfl⟩
  exact k s hs
/-- The state after each round is told. -/
theorem loop_is {S D O R : Type} {step : D → Option (D ⊕ O)} {f : O → Option R} {y : R} (emb : Int → S → D) (n : Nat) (st : Nat → S) (out : S → O)
    (hin : ∀ (i : Nat), i < n → step (emb (i : Int) (st i)) = some (.inl (emb ((i : Int) + 1) (st (i + 1)))))
    (hend : step (emb (n : Int) (st n)) = some (.inr (out (st n)))) (k : f (out (st n)) = some y) (s0 : S) (h0 : s0 = st 0) : Option.bind (loop step (emb 0 s0)) f = some y :=
  loop_all emb n (fun i s => s = st i) out (fun i s hi hs => ⟨_, by subst hs; exact hin i hi, rfl⟩) (fun s hs => by subst hs; exact hend) s0 h0 (fun s hs => by subst hs; exact k)
/-- From a later element on. -/
theorem loop_isk {S D O R : Type} {step : D → Option (D ⊕ O)} {f : O → Option R} {y : R} (emb : Int → S → D) (k0 n : Nat) (hk : k0 ≤ n) (st : Nat → S) (out : S → O)
    (hin : ∀ (i : Nat), k0 ≤ i → i < n → step (emb (i : Int) (st i)) = some (.inl (emb ((i : Int) + 1) (st (i + 1)))))
    (hend : step (emb (n : Int) (st n)) = some (.inr (out (st n)))) (k : f (out (st n)) = some y) (x : Int) (hx : x = (k0 : Int)) (s0 : S) (h0 : s0 = st k0) : Option.bind (loop step (emb x s0)) f = some y := by
  subst hx h0
  have h := loop_up (step := step) emb n (fun i s => k0 ≤ i ∧ s = st i) (fun o => o = out (st n)) (fun i s hi hs => .inl ⟨_, by rw [hs.2]; exact hin i hs.1 hi, by omega, rfl⟩) (fun s hs => ⟨_, by rw [hs.2]; exact hend, rfl⟩) k0 _ hk ⟨Nat.le_refl _, rfl⟩
  refine bind_loop h ?_
  rintro o rfl
  exact k
/-- What a loop that has ended has come to. -/
theorem loop_post {S D O : Type} {step : D → Option (D ⊕ O)} {o : O} (emb : Int → S → D) (n : Nat) (Inv : Nat → S → Prop) (Post : O → Prop) (s0 : S) (h1 : loop step (emb 0 s0) = some o)
    (hin : ∀ (i : Nat) (s : S), i < n → Inv i s → (∃ s', step (emb (i : Int) s) = some (.inl (emb ((i : Int) + 1) s')) ∧ Inv (i + 1) s') ∨ ∃ o, step (emb (i : Int) s) = some (.inr o) ∧ Post o)
    (hend : ∀ s, Inv n s → ∃ o, step (emb (n : Int) s) = some (.inr o) ∧ Post o) (h0 : Inv 0 s0) : Post o := by
  obtain ⟨o', h2, h3⟩ := loop_up emb n Inv Post hin hend 0 s0 (Nat.zero_le _) h0
  have h2 : loop step (emb 0 s0) = some o' := h2
  rw [h1] at h2
  injection h2 with h2
  subst h2
  exact h3
theorem take_succ {α : Type} {l : List α} {i : Nat} {a : α} (h : l[i]? = some a) : l.take (i + 1) = l.take i ++ [a] := by
  rw [List.take_add_one, h]; rfl
theorem get_lt {α : Type} {l : List α} {i : Nat} (h : i < l.length) : ∃ a, l[i]? = some a := ⟨_, List.getElem?_eq_getElem h⟩
end Go.Proofs.YtgabpbnndikheaaGreatDoor.I

namespace Go.Proofs.YtgabpbnndikheaaGreatDoor.I
open Go.RowKit
set_option linter.unusedVariables false
set_option linter.constructorNameAsVariable false
def mn : List Int → Int
  | [] => 0
  | x :: l => l.foldl minI x
def mx : List Int → Int
  | [] => 0
  | x :: l => l.foldl maxI x
theorem mn_snoc {l : List Int} {a : Int} : mn (l ++ [a]) = if l = [] then a else minI (mn l) a := by
  cases l with
  | nil => rfl
  | cons x l => simp [mn, List.foldl_append]
theorem mx_snoc {l : List Int} {a : Int} : mx (l ++ [a]) = if l = [] then a else maxI (mx l) a := by
  cases l with
  | nil => rfl
  | cons x l => simp [mx, List.foldl_append]
theorem min_self (a : Int) : minI a a = a := by unfold minI; split <;> rfl
theorem max_self (a : Int) : maxI a a = a := by unfold maxI; split <;> rfl
theorem clamp_in {x : Int} (h : -1048576 ≤ x ∧ x ≤ 1048576) : maxI (-1048576) (minI x 1048576) = x := by
  unfold maxI minI
  split <;> split <;> omega
def InPt (q : DPt) : Prop := (-1048576 ≤ q.1 ∧ q.1 ≤ 1048576) ∧ (-1048576 ≤ q.2.1 ∧ q.2.1 ≤ 1048576)
theorem clampP (q : DPt) (h : InPt q) : r63 (q, ()) = some (q, ()) := by
  obtain ⟨x, y, ⟨⟩⟩ := q
  unfold r63 r78
  have h1 := clamp_in h.1
  have h2 := clamp_in h.2
  have h3 : IntKind.wrap .i64 (0 - 1048576) = -1048576 := wrap64 (by omega) (by omega)
  simp only at h1 h2
  simp only [Option.bind_some, h3, h1, h2]
@[reducible] def embB (i : Int) (s : Int × Int × Int × Int) : (Int × Int × Int × Int × Int × Unit) × Unit := ((i, (s.1, (s.2.1, (s.2.2.1, (s.2.2.2, ()))))), ())
def bx (P : List DPt) : Int × Int × Int × Int := (mn (P.map (·.1)), mn (P.map (·.2.1)), mx (P.map (·.1)), mx (P.map (·.2.1)))
theorem of_eq (P : List DPt) (hp : ∀ q ∈ P, InPt q) (hl : P.length ≤ 1000000) : r47 (P, ()) = some ((((bx P).1, ((bx P).2.1, ())), (((bx P).2.2.1, ((bx P).2.2.2, ())), ())), ()) := by
  unfold r47
  refine loop_is embB P.length (fun i => bx (P.take i)) (fun s => Sum.inl ((s.1, (s.2.1, (s.2.2.1, (s.2.2.2, ())))), ())) (fun i hi => ?_) ?_ ?_ (0, 0, 0, 0) rfl
  · obtain ⟨q, hq⟩ := get_lt hi
    have hc := clampP q (hp q (List.mem_of_getElem? hq))
    have hc' : r63 ((q.1, (q.2.1, ())), ()) = some (q, ()) := hc
    simp only [embB, dec_lt hi, inB_lt hi, Int.toNat_natCast, hq, cond_true, Option.bind_some, hc']
    rw [wrapS hi (by omega), take_succ hq]
    unfold r64 bx
    simp only [List.map_append, List.map_cons, List.map_nil, mn_snoc, mx_snoc]
    cases i with
    | zero => simp [min_self, max_self]
    | succ i =>
      have hne : ∀ (f : DPt → Int), ((P.take (i + 1)).map f = []) = False := fun f => by
        simp only [eq_iff_iff, iff_false]
        intro h
        have := congrArg List.length h
        rw [List.length_map, List.length_take, List.length_nil] at this
        omega
      have h0 : decide (((i + 1 : Nat) : Int) = 0) = false := by simp; omega
      simp only [hne, if_false, h0, cond_false, Option.bind_some]
  · simp only [embB, dec_nlt, cond_false]
  · rw [List.take_length]
    rfl
@[reducible] def embN (i : Int) (s : Int) : (Int × Int × Unit) × Unit := ((s, (i, ())), ())
@[reducible] def embP (i : Int) (s : List DPt) : (List DPt × Int × Unit) × Unit := ((s, (i, ())), ())
theorem flat_take {l : List (List DPt)} {i : Nat} {p : List DPt} (h : l[i]? = some p) : (l.take (i + 1)).flatten = (l.take i).flatten ++ p := by
  rw [take_succ h, List.flatten_append]
  simp
theorem flat_le {l : List (List DPt)} {k : Nat} (h : ∀ p ∈ l, p.length ≤ k) : l.flatten.length ≤ k * l.length := by
  induction l with
  | nil => simp
  | cons p l ih =>
    have h1 := h p (by simp)
    have h2 := ih (fun q hq => h q (by simp [hq]))
    rw [List.flatten_cons, List.length_append, List.length_cons, Nat.mul_add]
    omega
theorem flat_le_take {l : List (List DPt)} {k i : Nat} (h : ∀ p ∈ l, p.length ≤ k) : (l.take i).flatten.length ≤ k * l.length := by
  have := flat_le (l := l.take i) (k := k) (fun p hp => h p (List.mem_of_mem_take hp))
  have h2 : (l.take i).length ≤ l.length := List.length_take_le' _ _
  exact Nat.le_trans this (Nat.mul_le_mul_left k h2)
theorem concat_eq (l : List (List DPt)) (hl : l.length ≤ 20) (hp : ∀ p ∈ l, p.length ≤ 200) : r48 (l, ()) = some (l.flatten, ()) := by
  unfold r48
  have hT : ∀ i, (l.take i).flatten.length ≤ 4000 := fun i => by
    have := flat_le_take (l := l) (k := 200) (i := i) hp
    omega
  have hF : l.flatten.length ≤ 4000 := by simpa using hT l.length
  refine loop_is embN l.length (fun i => ((l.take i).flatten.length : Int)) (fun s => Sum.inl ((s, ()), ())) (fun i hi => ?_) ?_ ?_ 0 rfl
  · obtain ⟨p, hq⟩ := get_lt hi
    have hpl := hp p (List.mem_of_getElem? hq)
    have hTi := hT i
    have e1 : IntKind.wrap .i64 ((((l.take i).flatten.length : Nat) : Int) + (p.length : Int)) = (((l.take (i + 1)).flatten.length : Nat) : Int) := by
      rw [flat_take hq, List.length_append, wrap64 (by omega) (by omega)]
      omega
    have e2 : decide ((((l.take (i + 1)).flatten.length : Nat) : Int) < 0) = false := decide_eq_false (by omega)
    simp only [embN, dec_lt hi, inB_lt hi, Int.toNat_natCast, hq, cond_true, Option.bind_some, e1, e2, cond_false]
    rw [wrapS hi (by omega)]
  · simp only [embN, dec_nlt, cond_false]
  · rw [List.take_length]
    have e : decide ((0 : Int) ≤ (l.flatten.length : Int) ∧ (l.flatten.length : Int) * 16 ≤ 140737488355328) = true := decide_eq_true ⟨by omega, by omega⟩
    simp only [sumE, e, cond_true]
    refine loop_is embP l.length (fun i => (l.take i).flatten) (fun s => Sum.inl ((s, ()), ())) (fun i hi => ?_) ?_ ?_ [] rfl
    · obtain ⟨p, hq⟩ := get_lt hi
      have hpl := hp p (List.mem_of_getElem? hq)
      simp only [embP, dec_lt hi, inB_lt hi, Int.toNat_natCast, hq, cond_true, Option.bind_some]
      rw [wrapS hi (by omega), flat_take hq, fitsN (by have := hT i; omega) (by omega)]
      rfl
    · simp only [embP, dec_nlt, cond_false]
    · rw [List.take_length]
      rfl
structure BoxOk (f : DFea) : Prop where
  parts : f.2.2.1.length ≤ 20
  pts : ∀ p ∈ f.2.2.1, p.length ≤ 200
  inp : ∀ p ∈ f.2.2.1, ∀ q ∈ p, InPt q
  some : f.2.2.1.flatten ≠ []
def boxF (f : DFea) : (((Int × Int × Unit) × (Int × Int × Unit) × Unit) × Unit) := let b := bx f.2.2.1.flatten; (((b.1, (b.2.1, ())), ((b.2.2.1, (b.2.2.2, ())), ())), ())
theorem box_eq (f : DFea) (h : BoxOk f) : r18 (f, ()) = some (boxF f) := by
  unfold r18
  have hf : f.2.2.1.flatten.length ≤ 4000 := by
    have := flat_le (l := f.2.2.1) (k := 200) h.pts
    have := h.parts
    omega
  rw [concat_eq f.2.2.1 h.parts h.pts]
  simp only [Option.bind_some]
  rw [of_eq _ (fun q hq => by
    obtain ⟨p, hp, hq⟩ := List.mem_flatten.1 hq
    exact h.inp p hp q hq) (by omega)]
  rfl
theorem min_eq (l : List Int) (hl : l.length ≤ 1000000) (hne : l ≠ []) : r49 (l, ()) = some (mn l, ()) := by
  unfold r49
  have h0 : 0 < l.length := List.length_pos_iff.2 hne
  obtain ⟨x, hx⟩ : ∃ x, l[0]? = some x := get_lt h0
  have e1 : decide ((l.length : Int) < 1) = false := decide_eq_false (by omega)
  have e2 : inB (0 : Int) l.length = true := inB_lt (i := 0) h0
  simp only [e1, cond_false, e2, cond_true, hx, Option.bind_some]
  refine loop_isk embN 1 l.length h0 (fun i => mn (l.take i)) (fun s => Sum.inl ((s, ()), ())) (fun i h5 hi => ?_) ?_ ?_ 1 rfl x (by rw [take_succ hx]; rfl)
  · obtain ⟨a, ha⟩ := get_lt hi
    simp only [embN, dec_lt hi, inB_lt hi, Int.toNat_natCast, ha, cond_true, Option.bind_some]
    rw [wrapS hi (by omega), take_succ ha, mn_snoc, if_neg (fun h => by
      have := congrArg List.length h
      rw [List.length_take, List.length_nil] at this
      omega)]
  · simp only [embN, dec_nlt, cond_false]
  · rw [List.take_length]
    rfl
theorem max_eq (l : List Int) (hl : l.length ≤ 1000000) (hne : l ≠ []) : r50 (l, ()) = some (mx l, ()) := by
  unfold r50
  have h0 : 0 < l.length := List.length_pos_iff.2 hne
  obtain ⟨x, hx⟩ : ∃ x, l[0]? = some x := get_lt h0
  have e1 : decide ((l.length : Int) < 1) = false := decide_eq_false (by omega)
  have e2 : inB (0 : Int) l.length = true := inB_lt (i := 0) h0
  simp only [e1, cond_false, e2, cond_true, hx, Option.bind_some]
  refine loop_isk embN 1 l.length h0 (fun i => mx (l.take i)) (fun s => Sum.inl ((s, ()), ())) (fun i h5 hi => ?_) ?_ ?_ 1 rfl x (by rw [take_succ hx]; rfl)
  · obtain ⟨a, ha⟩ := get_lt hi
    simp only [embN, dec_lt hi, inB_lt hi, Int.toNat_natCast, ha, cond_true, Option.bind_some]
    rw [wrapS hi (by omega), take_succ ha, mx_snoc, if_neg (fun h => by
      have := congrArg List.length h
      rw [List.length_take, List.length_nil] at this
      omega)]
  · simp only [embN, dec_nlt, cond_false]
  · rw [List.take_length]
    rfl
@[reducible] def embXY (i : Int) (s : List Int × List Int) : (List Int × List Int × Int × Unit) × Unit := ((s.1, (s.2, (i, ()))), ())
def xyOf (P : List DPt) : List Int × List Int := (P.map (·.1), P.map (·.2.1))
theorem bound_eq (f : DFea) (h : BoxOk f) : r19 (f, ()) = some (boxF f) := by
  unfold r19
  have hpl := h.parts
  have hT : ∀ i, (f.2.2.1.take i).flatten.length ≤ 4000 := fun i => by
    have := flat_le_take (l := f.2.2.1) (k := 200) (i := i) h.pts
    omega
  have hf : f.2.2.1.flatten.length ≤ 4000 := by
    have := flat_le (l := f.2.2.1) (k := 200) h.pts
    omega
  refine loop_is embXY f.2.2.1.length (fun i => xyOf (f.2.2.1.take i).flatten) (fun s => Sum.inl ((s.1, (s.2, ())), ())) (fun i hi => ?_) ?_ ?_ ([], []) rfl
  · obtain ⟨p, hq⟩ := get_lt hi
    have hp2 := h.pts p (List.mem_of_getElem? hq)
    have hTi := hT i
    simp only [embXY, dec_lt hi, inB_lt hi, Int.toNat_natCast, hq, cond_true, Option.bind_some]
    refine loop_is embXY p.length (fun j => xyOf ((f.2.2.1.take i).flatten ++ p.take j)) (fun s => Sum.inl ((s.1, (s.2, ())), ())) (fun j hj => ?_) ?_ ?_ (xyOf (f.2.2.1.take i).flatten) (by simp)
    · obtain ⟨q, hqj⟩ := get_lt hj
      have hjl : (p.take j).length ≤ 200 := by rw [List.length_take]; omega
      simp only [embXY, dec_lt hj, inB_lt hj, Int.toNat_natCast, hqj, cond_true, Option.bind_some]
      rw [wrapS hj (by omega), fitsN (by simp only [xyOf, List.length_map, List.length_append, List.length_cons, List.length_nil]; omega) (by omega), fitsN (by simp only [xyOf, List.length_map, List.length_append, List.length_cons, List.length_nil]; omega) (by omega), take_succ hqj]
      simp only [cond_true, xyOf, List.map_append, List.map_cons, List.map_nil, List.append_assoc]
    · simp only [embXY, dec_nlt, cond_false]
    · rw [List.take_length, ← flat_take hq, wrapS hi (by omega)]
      rfl
  · simp only [embXY, dec_nlt, cond_false]
  · rw [List.take_length]
    simp only [sumE, xyOf]
    have hne := h.some
    rw [min_eq _ (by rw [List.length_map]; omega) (by simpa using hne), min_eq _ (by rw [List.length_map]; omega) (by simpa using hne), max_eq _ (by rw [List.length_map]; omega) (by simpa using hne), max_eq _ (by rw [List.length_map]; omega) (by simpa using hne)]
    rfl
end Go.Proofs.YtgabpbnndikheaaGreatDoor.I

namespace Go.Proofs.YtgabpbnndikheaaGreatDoor.I
open Go.RowKit
set_option linter.unusedVariables false
set_option linter.constructorNameAsVariable false
theorem ring_len (p : List DPt) (hp : p.length ≤ 200) (h : r73 (p, ()) = some (0, ())) : 3 ≤ p.length := by
  rcases Nat.lt_or_ge p.length 3 with h3 | h3
  · exfalso
    unfold r73 at h
    have e1 : decide ((200 : Int) < (p.length : Int)) = false := decide_eq_false (by omega)
    have e2 : decide ((p.length : Int) < 3) = true := decide_eq_true (by omega)
    simp only [e1, e2, cond_false, cond_true] at h
    cases h
  · exact h3
theorem area_len (l : List (List DPt)) (hl : l.length ≤ 20) (hp : ∀ p ∈ l, p.length ≤ 200) (h : r60 (l, ()) = some (0, ())) : ∀ p ∈ l, 3 ≤ p.length := by
  unfold r60 at h
  have e1 : decide ((20 : Int) < (l.length : Int)) = false := decide_eq_false (by omega)
  simp only [e1, cond_false] at h
  obtain ⟨o, h1, h2⟩ := Option.bind_eq_some_iff.1 h
  have hP := loop_post embI l.length (fun i _ => ∀ p ∈ l.take i, 3 ≤ p.length) (fun o => (∃ e, o = Sum.inl ((e, ()), ()) ∧ e ≠ 0) ∨ (o = Sum.inr (Sum.inl ((), ())) ∧ ∀ p ∈ l, 3 ≤ p.length)) () h1 (fun i s hi hs => ?_) (fun s hs => ?_) (by simp)
  · rcases hP with ⟨e, rfl, he⟩ | ⟨rfl, hall⟩
    · simp only [sumE, Option.some.injEq, Prod.mk.injEq] at h2
      exact absurd h2.1 he
    · exact hall
  · obtain ⟨p, hq⟩ := get_lt hi
    have hpl := hp p (List.mem_of_getElem? hq)
    obtain ⟨⟨e, ⟨⟩⟩, he⟩ := t88 p (by omega)
    simp only [embI, dec_lt hi, inB_lt hi, Int.toNat_natCast, hq, cond_true, Option.bind_some, he]
    by_cases hz : e = 0
    · subst hz
      refine .inl ⟨(), ?_, ?_⟩
      · simp only [decide_true, Bool.not_true, cond_false]
        rw [wrapS hi (by omega)]
      · intro q hqm
        rw [take_succ hq] at hqm
        rcases List.mem_append.1 hqm with h5 | h5
        · exact hs q h5
        · rw [List.mem_singleton.1 h5]
          exact ring_len p hpl he
    · refine .inr ⟨_, ?_, .inl ⟨e, rfl, hz⟩⟩
      simp only [decide_eq_false hz, Bool.not_false, cond_true]
  · rw [List.take_length] at hs
    refine ⟨_, ?_, .inr ⟨rfl, hs⟩⟩
    simp only [embI, dec_nlt, cond_false]
/-- A valid feature's parts. -/
structure PartsOk (f : DFea) : Prop where
  kind : 1 ≤ f.2.1 ∧ f.2.1 ≤ 3
  parts : f.2.2.1.length ≤ 20
  pts : ∀ p ∈ f.2.2.1, p.length ≤ 200
  inp : ∀ p ∈ f.2.2.1, ∀ q ∈ p, (-1048576 ≤ q.1 ∧ q.1 ≤ 1048576) ∧ (-1048576 ≤ q.2.1 ∧ q.2.1 ≤ 1048576)
  one : ∀ p ∈ f.2.2.1, p ≠ []
  some : f.2.2.1 ≠ []
theorem findSome_none {α : Type} {F : α → Int} : ∀ {l : List α}, l.findSome? (fun p => if F p = 0 then none else some (F p)) = none → ∀ p ∈ l, F p = 0
  | [], _, p, hp => by cases hp
  | a :: l, h, p, hp => by
    simp only [List.findSome?_cons] at h
    by_cases hz : F a = 0
    · simp only [hz, if_true] at h
      rcases List.mem_cons.1 hp with rfl | hp
      · exact hz
      · exact findSome_none h p hp
    · simp [hz] at h
theorem findSome_ne {α : Type} {F : α → Int} {e : Int} : ∀ {l : List α}, l.findSome? (fun p => if F p = 0 then none else some (F p)) = some e → e ≠ 0
  | [], h => by cases h
  | a :: l, h => by
    simp only [List.findSome?_cons] at h
    by_cases hz : F a = 0
    · simp only [hz, if_true] at h
      exact findSome_ne h
    · simp [hz] at h
      omega
theorem far_in {q : DPt} (h : far q = false) : (-1048576 ≤ q.1 ∧ q.1 ≤ 1048576) ∧ (-1048576 ≤ q.2.1 ∧ q.2.1 ≤ 1048576) := by
  unfold far at h
  simp only [Bool.or_eq_false_iff, decide_eq_false_iff_not] at h
  omega
theorem partE_zero {kind : Int} {p : List DPt} (h : partE kind p = 0) : (∀ q ∈ p, (-1048576 ≤ q.1 ∧ q.1 ≤ 1048576) ∧ (-1048576 ≤ q.2.1 ∧ q.2.1 ≤ 1048576)) ∧ (kind ≤ 2 → 1 ≤ kind → p ≠ []) := by
  unfold partE at h
  split at h
  · cases h
  · rename_i hf
    refine ⟨fun q hq => far_in ?_, fun h1 h2 => ?_⟩
    · cases hfq : far q with
      | false => rfl
      | true => exact absurd (List.any_eq_true.2 ⟨q, hq, hfq⟩) hf
    · rintro rfl
      split at h
      · simp at h
      · split at h
        · simp at h
        · omega
theorem partsV_ok {f : DFea} (hs : small kFea f) (h : partsV f.2.1 f.2.2.1 = 0) : PartsOk f := by
  have h1 := parts_some (kind := f.2.1) (fea_small hs).1
  rw [h] at h1
  unfold partsE at h1
  split at h1
  · cases h1
  split at h1
  · cases h1
  split at h1
  · cases h1
  split at h1
  · cases h1
  split at h1
  · cases h1
  rename_i k1 k2 k3 k4 k5
  have hpts : ∀ p ∈ f.2.2.1, p.length ≤ 200 := fun p hp => by
    rcases Nat.lt_or_ge 200 p.length with h | h
    · exact absurd (List.any_eq_true.2 ⟨p, hp, by simp; omega⟩) k4
    · exact h
  split at h1
  · rename_i e he
    injection h1 with h1
    injection h1 with h1
    exact absurd h1 (findSome_ne he)
  · rename_i hn
    have hz := findSome_none hn
    refine ⟨⟨by omega, by omega⟩, by omega, hpts, fun p hp => (partE_zero (hz p hp)).1, fun p hp => ?_, fun he => k5 (by rw [he]; rfl)⟩
    split at h1
    · rename_i k6
      unfold areaO at h1
      obtain ⟨⟨e, ⟨⟩⟩, h2, h3⟩ := Option.bind_eq_some_iff.1 h1
      injection h3 with h3
      injection h3 with h3
      simp only at h3
      subst h3
      have := area_len f.2.2.1 (by omega) hpts h2 p hp
      rintro rfl
      simp at this
    · exact (partE_zero (hz p hp)).2 (by omega) (by omega)
theorem featV_ok {f : DFea} (hs : small kFea f) (h : featV f = 0) : PartsOk f ∧ 1 ≤ f.1 ∧ f.1 ≤ 1073741824 ∧ attrsE false f.2.2.2.1 = 0 ∧ 0 ≤ f.2.2.2.2.1 ∧ f.2.2.2.2.1 < f.2.2.2.2.2.1 ∧ f.2.2.2.2.2.1 ≤ 1073741824 := by
  unfold featV at h
  split at h
  · cases h
  split at h
  · cases h
  split at h
  · contradiction
  split at h
  · contradiction
  split at h
  · cases h
  split at h
  · cases h
  split at h
  · cases h
  rename_i k1 k2 k3 k4 k5 k6 k7
  have k3 : partsV f.2.1 f.2.2.1 = 0 := by simpa using k3
  have k4 : attrsE false f.2.2.2.1 = 0 := by simpa using k4
  exact ⟨partsV_ok hs k3, by omega, by omega, k4, by omega, by omega, by omega⟩
/-- Valid features in order of their numbers, all above one. -/
def Asc : Int → List DFea → Prop
  | _, [] => True
  | p, f :: l => featV f = 0 ∧ p < f.1 ∧ Asc f.1 l
theorem asc_of_scan : ∀ {l : List DFea} {p : Int}, scan survF (fun f => f.1) 0 p l = 0 → Asc p l
  | [], _, _ => trivial
  | f :: l, p, h => by
    simp only [scan] at h
    unfold survF at h
    by_cases h1 : featV f = 0
    · by_cases h2 : f.1 ≤ p
      · simp [h1, h2] at h
      · simp only [h1, ne_eq, not_true_eq_false, if_false, h2] at h
        exact ⟨h1, by omega, asc_of_scan h⟩
    · simp [h1] at h
theorem survV_ok {l : List DFea} (h : survV l = 0) : l.length ≤ 200 ∧ Asc 0 l := by
  unfold survV at h
  split at h
  · cases h
  · exact ⟨by omega, asc_of_scan h⟩
theorem asc_mem : ∀ {l : List DFea} {p : Int}, Asc p l → ∀ f ∈ l, featV f = 0 ∧ p < f.1
  | f :: l, p, ⟨h1, h2, h3⟩, g, hg => by
    rcases List.mem_cons.1 hg with rfl | hg
    · exact ⟨h1, h2⟩
    · obtain ⟨h4, h5⟩ := asc_mem h3 g hg
      exact ⟨h4, by omega⟩
theorem asc_lt : ∀ {l : List DFea} {p : Int}, Asc p l → ∀ (i j : Nat) (f g : DFea), i < j → l[i]? = some f → l[j]? = some g → f.1 < g.1
  | f :: l, p, ⟨h1, h2, h3⟩, 0, j + 1, a, b, _, ha, hb => by
    simp only [List.getElem?_cons_zero, Option.some.injEq] at ha
    subst ha
    exact (asc_mem h3 b (List.mem_of_getElem? (by simpa using hb))).2
  | f :: l, p, ⟨h1, h2, h3⟩, i + 1, j + 1, a, b, hij, ha, hb => asc_lt h3 i j a b (by omega) (by simpa using ha) (by simpa using hb)
/-- Where the feature with a number stands. -/
def at? (l : List DFea) (id : Int) : Option Nat := l.findIdx? (fun f => decide (f.1 = id))
def findI (l : List DFea) (id : Int) : Int := match at? l id with
  | some i => (i : Int)
  | none => -1
theorem at_some {l : List DFea} {p id : Int} (h : Asc p l) {i : Nat} {f : DFea} (hf : l[i]? = some f) (hid : f.1 = id) : at? l id = some i := by
  unfold at?
  rw [List.findIdx?_eq_some_iff_getElem]
  have hlt := lt_of_get hf
  refine ⟨hlt, ?_, fun j hj => ?_⟩
  · rw [List.getElem?_eq_getElem hlt] at hf
    injection hf with hf
    rw [hf]
    simpa using hid
  · have := asc_lt h j i _ f hj (List.getElem?_eq_getElem (by omega)) hf
    simp
    omega
theorem at_none {l : List DFea} {id : Int} (h : ∀ f ∈ l, f.1 ≠ id) : at? l id = none := by
  unfold at?
  rw [List.findIdx?_eq_none_iff]
  intro f hf
  simpa using h f hf
end Go.Proofs.YtgabpbnndikheaaGreatDoor.I

namespace Go.Proofs.YtgabpbnndikheaaGreatDoor.I
open Go.RowKit
set_option linter.unusedVariables false
set_option linter.constructorNameAsVariable false
theorem half_eq (i j n : Nat) (h : i < j) (hj : j ≤ n) (hn : n ≤ 1048576) : IntKind.wrap .i64 (Int.fdiv (IntKind.wrap .u64 (IntKind.wrap .i64 ((i : Int) + (j : Int)))) 2) = (((i + j) / 2 : Nat) : Int) := by
  have e1 : IntKind.wrap .i64 ((i : Int) + (j : Int)) = ((i + j : Nat) : Int) := by rw [wrap64 (by omega) (by omega)]; omega
  have e2 : IntKind.wrap .u64 ((i + j : Nat) : Int) = ((i + j : Nat) : Int) := by
    simp only [IntKind.wrap, IntKind.bits, IntKind.signed]
    simp
    omega
  have e3 : Int.fdiv ((i + j : Nat) : Int) 2 = (((i + j) / 2 : Nat) : Int) := by
    rw [Int.fdiv_eq_ediv_of_nonneg _ (by omega)]
    omega
  rw [e1, e2, e3, wrap64 (by omega) (by omega)]
@[reducible] def embJ (i j : Nat) (l : List DFea) (id : Int) : (Int × Int × List DFea × Int × Unit) × Unit := (((i : Int), ((j : Int), (l, (id, ())))), ())
theorem search_eq (l : List DFea) (id : Int) (hl : l.length ≤ 1048576) {p : Int} (h : Asc p l) : ∃ k : Nat, k ≤ l.length ∧ (∀ (m : Nat) f, m < k → l[m]? = some f → f.1 < id) ∧ (∀ (m : Nat) f, k ≤ m → l[m]? = some f → id ≤ f.1) ∧
    r51_52 ((l.length : Int), ()) (l, (id, ())) = some (((k : Int), ()), (l, (id, ()))) := by
  unfold r51_52
  refine bind_loopQ (fun z => ∃ k : Nat, k ≤ l.length ∧ (∀ (m : Nat) f, m < k → l[m]? = some f → f.1 < id) ∧ (∀ (m : Nat) f, k ≤ m → l[m]? = some f → id ≤ f.1) ∧ z = some (((k : Int), ()), (l, (id, ()))))
    (loop_rule (fun d : (Int × Int × List DFea × Int × Unit) × Unit => (d.1.2.1 - d.1.1).toNat)
    (fun d => ∃ i j : Nat, d = embJ i j l id ∧ i ≤ j ∧ j ≤ l.length ∧ (∀ (m : Nat) f, m < i → l[m]? = some f → f.1 < id) ∧ (∀ (m : Nat) f, j ≤ m → l[m]? = some f → id ≤ f.1))
    (fun o : ((Int × List DFea × Int × Unit) × Unit) ⊕ Empty => ∃ k : Nat, o = Sum.inl (((k : Int), (l, (id, ()))), ()) ∧ k ≤ l.length ∧ (∀ (m : Nat) f, m < k → l[m]? = some f → f.1 < id) ∧ (∀ (m : Nat) f, k ≤ m → l[m]? = some f → id ≤ f.1))
    ?step (embJ 0 l.length l id) ⟨0, l.length, rfl, Nat.zero_le _, Nat.le_refl _, fun m f hm => by omega, fun m f hm hf => by have := lt_of_get hf; omega⟩) ?fin
  case step =>
    rintro d ⟨i, j, rfl, hij, hj, hlo, hhi⟩
    by_cases hlt : i < j
    · have e1 : decide ((i : Int) < (j : Int)) = true := decide_eq_true (by omega)
      have hm : (i + j) / 2 < l.length := by omega
      obtain ⟨g, hg⟩ := get_lt hm
      have hstep : r52 (((((i + j) / 2 : Nat) : Int)), ()) (l, (id, ())) = some ((decide (id ≤ g.1), ()), (l, (id, ()))) := by
        unfold r52
        simp only [inB_lt hm, Int.toNat_natCast, hg, cond_true, Option.bind_some]
      left
      by_cases hc : id ≤ g.1
      · refine ⟨embJ i ((i + j) / 2) l id, ?_, ⟨i, (i + j) / 2, rfl, by omega, by omega, hlo, fun m f hm2 hf => ?_⟩, ?_⟩
        · simp only [embJ, e1, cond_true, half_eq i j l.length hlt hj hl, hstep, Option.bind_some, decide_eq_true hc, Bool.not_true, cond_false]
        · rcases Nat.lt_or_ge ((i + j) / 2) m with h5 | h5
          · have := asc_lt h _ _ g f h5 hg hf
            omega
          · have : m = (i + j) / 2 := by omega
            subst this
            rw [hg] at hf
            injection hf with hf
            subst hf
            exact hc
        · simp only [embJ]
          omega
      · have e3 : IntKind.wrap .i64 ((((i + j) / 2 : Nat) : Int) + 1) = (((i + j) / 2 + 1 : Nat) : Int) := by rw [wrapS hm (by omega)]; omega
        refine ⟨embJ ((i + j) / 2 + 1) j l id, ?_, ⟨(i + j) / 2 + 1, j, rfl, by omega, by omega, fun m f hm2 hf => ?_, hhi⟩, ?_⟩
        · simp only [embJ, e1, cond_true, half_eq i j l.length hlt hj hl, hstep, Option.bind_some, decide_eq_false hc, Bool.not_false, e3]
        · rcases Nat.lt_or_ge m ((i + j) / 2) with h5 | h5
          · have := asc_lt h _ _ f g h5 hf hg
            omega
          · have : m = (i + j) / 2 := by omega
            subst this
            rw [hg] at hf
            injection hf with hf
            subst hf
            omega
        · simp only [embJ]
          omega
    · have e1 : decide ((i : Int) < (j : Int)) = false := decide_eq_false (by omega)
      right
      have hij2 : i = j := by omega
      subst hij2
      refine ⟨_, ?_, i, rfl, by omega, hlo, hhi⟩
      simp only [embJ, e1, cond_false]
  case fin =>
    rintro o ⟨k, rfl, h2, h3, h4⟩
    exact ⟨k, h2, h3, h4, rfl⟩
theorem find_eq (l : List DFea) (id : Int) (hl : l.length ≤ 1048576) {p : Int} (h : Asc p l) : r21 (l, (id, ())) = some (findI l id, ()) := by
  unfold r21
  obtain ⟨k, hk, h1, h2, h3⟩ := search_eq l id hl h
  rw [h3]
  simp only [Option.bind_some]
  by_cases hlt : k < l.length
  · obtain ⟨g, hg⟩ := get_lt hlt
    simp only [dec_lt hlt, inB_lt hlt, Int.toNat_natCast, hg, cond_true, Option.bind_some]
    by_cases hid : g.1 = id
    · have := at_some h hg hid
      unfold findI
      rw [this]
      simp only [decide_eq_true hid, cond_true]
    · have : at? l id = none := at_none (fun f hf he => by
        obtain ⟨m, hm⟩ := List.mem_iff_getElem?.1 hf
        rcases Nat.lt_trichotomy m k with h5 | h5 | h5
        · have := h1 m f h5 hm; omega
        · subst h5
          rw [hg] at hm
          injection hm with hm
          subst hm
          exact hid he
        · have h6 := h2 k g (Nat.le_refl _) hg
          have h7 := asc_lt h k m g f h5 hg hm
          omega)
      unfold findI
      rw [this]
      simp only [decide_eq_false hid, cond_false]
  · have : at? l id = none := at_none (fun f hf he => by
      obtain ⟨m, hm⟩ := List.mem_iff_getElem?.1 hf
      have := h1 m f (by have := lt_of_get hm; omega) hm
      omega)
    have e : decide ((k : Int) < (l.length : Int)) = false := decide_eq_false (by omega)
    unfold findI
    rw [this]
    simp only [e, cond_false]
end Go.Proofs.YtgabpbnndikheaaGreatDoor.I

namespace Go.Proofs.YtgabpbnndikheaaGreatDoor.I
open Go.RowKit
set_option linter.unusedVariables false
set_option linter.constructorNameAsVariable false
theorem boxOk_of {f : DFea} (h : PartsOk f) : BoxOk f := ⟨h.parts, h.pts, h.inp, fun he => by
  obtain ⟨p, ps, hp⟩ := List.exists_cons_of_ne_nil h.some
  have h1 := h.one p (by rw [hp]; simp)
  rw [hp, List.flatten_cons] at he
  exact h1 (List.append_eq_nil_iff.1 he).1⟩
theorem index_eq (l : List DFea) (id : Int) (hl : l.length ≤ 1048576) : r22_23 (l, ()) (id, ()) = some ((findI l id, ()), (id, ())) := by
  unfold r22_23
  refine bind_loop (loop_up (fun (i : Int) (_ : Unit) => ((i, (id, ())), ())) l.length (fun i _ => ∀ (m : Nat) f, m < i → l[m]? = some f → f.1 ≠ id)
    (fun o => (∃ i : Nat, o = Sum.inl (((i : Int), (id, ())), ()) ∧ at? l id = some i) ∨ (o = Sum.inr (Sum.inl ((id, ()), ())) ∧ at? l id = none)) (fun i s hi hs => ?_) (fun s hs => ?_) 0 () (Nat.zero_le _) (fun m f hm => by omega)) ?_
  · obtain ⟨f, hf⟩ := get_lt hi
    have e : r23 ((f.1, (f.2.1, (f.2.2.1, (f.2.2.2.1, (f.2.2.2.2.1, (f.2.2.2.2.2.1, ())))))), ()) (id, ()) = some ((decide (f.1 = id), ()), (id, ())) := rfl
    simp only [dec_lt hi, inB_lt hi, Int.toNat_natCast, hf, cond_true, Option.bind_some, e]
    by_cases hid : f.1 = id
    · refine .inr ⟨_, by simp only [decide_eq_true hid, cond_true], .inl ⟨i, rfl, ?_⟩⟩
      unfold at?
      rw [List.findIdx?_eq_some_iff_getElem]
      refine ⟨hi, ?_, fun j hj => ?_⟩
      · rw [List.getElem?_eq_getElem hi] at hf
        injection hf with hf
        rw [hf]
        simpa using hid
      · have := hs j _ hj (List.getElem?_eq_getElem (by omega))
        simpa using this
    · refine .inl ⟨(), ?_, fun m g hm hg => ?_⟩
      · simp only [decide_eq_false hid, cond_false]
        rw [wrapS hi (by omega)]
      · rcases Nat.lt_or_ge m i with h5 | h5
        · exact hs m g h5 hg
        · have : m = i := by omega
          subst this
          rw [hf] at hg
          injection hg with hg
          subst hg
          exact hid
  · refine ⟨_, by simp only [dec_nlt, cond_false], .inr ⟨rfl, at_none (fun f hf => ?_)⟩⟩
    obtain ⟨m, hm⟩ := List.mem_iff_getElem?.1 hf
    exact hs m f (lt_of_get hm) hm
  · rintro o (⟨i, rfl, h⟩ | ⟨rfl, h⟩)
    · unfold findI
      rw [h]
      rfl
    · unfold findI
      rw [h]
      rfl
def dotF : DFea := (1, (1, ([[(3, (4, ()))]], ([], (0, (9, ()))))))
def zeroF : DFea := (0, (0, ([], ([], (0, (0, ()))))))
theorem dot_ok : featV dotF = 0 := by
  have : partsV 1 [[((3 : Int), ((4 : Int), ()))]] = 0 := by
    unfold partsV partsE
    simp [partE, far]
  unfold featV dotF
  simp only [this]
  have h2 : attrsE false [] = 0 := by simp [attrsE, scan]
  simp [h2]
theorem iw (n : Int) (h : (Lit.int .i64 n).wf = true) : small (.int .i64) n := h
theorem dot_small : small kFea dotF := by
  refine ⟨iw 1 rfl, iw 1 rfl, ⟨by decide, fun p hp => ?_⟩, ⟨by decide, fun a ha => by cases ha⟩, iw 0 rfl, iw 9 rfl, trivial⟩
  have hp : p ∈ [[((3 : Int), ((4 : Int), ()))]] := hp
  simp only [List.mem_singleton] at hp
  subst hp
  refine ⟨by decide, fun q hq => ?_⟩
  have hq : q ∈ [((3 : Int), ((4 : Int), ()))] := hq
  simp only [List.mem_singleton] at hq
  subst hq
  exact ⟨iw 3 rfl, iw 4 rfl, trivial⟩
theorem zero_small : small kFea zeroF := ⟨iw 0 rfl, iw 0 rfl, ⟨by decide, fun a ha => by cases ha⟩, ⟨by decide, fun a ha => by cases ha⟩, iw 0 rfl, iw 0 rfl, trivial⟩
theorem zero_bad : featV zeroF = 1 := by
  unfold featV zeroF
  simp
theorem begun_eq : r9 () = some (true, ()) := by
  unfold r9 r24
  have e1 : r35 (((1 : Int), ((1 : Int), ([[((3 : Int), ((4 : Int), ()))]], ([], ((0 : Int), ((9 : Int), ())))))), ()) = some (0, ()) := by
    have := r18_eq dotF dot_small
    rw [dot_ok] at this
    exact this
  have e2 : r35 (((0 : Int), ((0 : Int), ([], ([], ((0 : Int), ((0 : Int), ())))))), ()) = some (1, ()) := by
    have := r18_eq zeroF zero_small
    rw [zero_bad] at this
    exact this
  have e3 : r21 ([((1 : Int), ((1 : Int), ([[((3 : Int), ((4 : Int), ()))]], ([], ((0 : Int), ((9 : Int), ()))))))], ((2 : Int), ())) = some (-1, ()) := by
    have := find_eq [dotF] 2 (by simp) (p := 0) ⟨dot_ok, by decide, trivial⟩
    rw [show findI [dotF] 2 = -1 by rfl] at this
    exact this
  have e4 : r36 ((ByteArray.mk (List.toArray (List.cons (97 : UInt8) (List.cons (95 : UInt8) (List.cons (49 : UInt8) (List.nil)))))), ()) = some (true, ()) := by
    have : nameOk (ByteArray.mk (List.toArray (List.cons (97 : UInt8) (List.cons (95 : UInt8) (List.cons (49 : UInt8) (List.nil)))))) = true := by decide +kernel
    unfold r36
    simp only [this]
    rfl
  have e0 : inB (0 : Int) 1 = true := rfl
  simp only [Option.bind_some, List.length_cons, List.length_nil, Nat.zero_add, e0, cond_true, List.getElem?_cons_zero, e1, e2, e3, e4, decide_true]
@[reducible] def embA (i : Int) (s : List DFea) : (List DFea × Int × Unit) × Unit := ((s, (i, ())), ())
theorem upTo_nat {i n : Nat} (h : i ≤ n) : upTo (i : Int) (n : Int) = true := by unfold upTo; simp; omega
theorem one_at {l : List DFea} {i : Nat} {f : DFea} (h : l[i]? = some f) : (l.take (i + 1)).drop i = [f] := by
  rw [take_succ h, List.drop_append, List.drop_of_length_le (by rw [List.length_take]; omega)]
  have : i - (l.take i).length = 0 := by rw [List.length_take]; have := lt_of_get h; omega
  rw [this]
  rfl
set_option maxHeartbeats 4000000 in
set_option maxRecDepth 100000 in
theorem featTells_raw (l : List DFea) (time id : Int) (key : ByteArray) (hs : small (.slice kFea) l) (hb : bulkK (.slice kFea) l ≤ 1048576) : r4 (l, (time, (id, (key, ())))) = some (true, ()) := by
  have hb' : bSurv l ≤ 1048576 := hb
  have hlen : l.length ≤ 1048576 := by have := len_surv l; omega
  have hsm : ∀ f ∈ l, small kFea f := (surv_small hs).2
  have hbf : ∀ f ∈ l, bulkK kFea f + 1 ≤ 1048576 := fun f hf => by have := bulk_mem (bulkK kFea) l f hf; unfold bSurv at hb'; omega
  have hw : ∀ f ∈ l, WOk f := fun f hf => w_ok (hsm f hf)
  have hfew : ∀ f ∈ l, Few f := fun f hf => few_of (by have := hbf f hf; omega)
  have hwho := whose_eq l hw hb'
  have hfil : ∀ i, bSurv ((l.take i).filter (atB time)) ≤ 1048576 := fun i => by
    have h1 := bulk_filter (bulkK kFea) (atB time) (l.take i)
    have h2 : ((l.take i).map (bulkK kFea)).sum ≤ (l.map (bulkK kFea)).sum := by
      conv => rhs; rw [← List.take_append_drop i l]
      rw [List.map_append, List.sum_append]; omega
    unfold bSurv at hb' ⊢
    omega
  unfold r4
  simp only [begun_eq, Option.bind_some, Bool.not_true, cond_false, copyAll_eq l hlen hfew, hwho, decide_true]
  refine loop_is embA l.length (fun i => (l.take i).filter (atB time)) (fun s => Sum.inr (Sum.inl ((s, ()), ()))) (fun i hi => ?_) ?_ ?_ [] (by simp)
  · obtain ⟨f, hf⟩ := get_lt hi
    obtain ⟨g, hg⟩ : ∃ g, l[0]? = some g := get_lt (by omega)
    have hm := List.mem_of_getElem? hf
    have hm0 := List.mem_of_getElem? hg
    have e12 : r12 ((f.1, (f.2.1, (f.2.2.1, (f.2.2.2.1, (f.2.2.2.2.1, (f.2.2.2.2.2.1, ())))))), (key, ())) = some (getV f.2.2.2.1 key, ()) := get_eq f key (hfew f hm)
    have e13 : r13 ((f.1, (f.2.1, (f.2.2.1, (f.2.2.2.1, (f.2.2.2.2.1, (f.2.2.2.2.2.1, ())))))), (key, ())) = some (getV f.2.2.2.1 key, ()) := got_eq f key (hfew f hm)
    have e14 : r14 ((f.1, (f.2.1, (f.2.2.1, (f.2.2.2.1, (f.2.2.2.2.1, (f.2.2.2.2.2.1, ())))))), ()) = some (f, ()) := copy_eq f (hfew f hm)
    have e10 : r10 ([f], ()) = some (⟨(whoseT [f]).toArray⟩, ()) := whose_eq [f] (fun g hg => by simp only [List.mem_singleton] at hg; subst hg; exact hw _ hm) (by rw [one_surv]; exact hbf f hm)
    have e10' : r10 ([(f.1, (f.2.1, (f.2.2.1, (f.2.2.2.1, (f.2.2.2.2.1, (f.2.2.2.2.2.1, ()))))))], ()) = some (⟨(whoseT [f]).toArray⟩, ()) := e10
    have e15 : r15 ((f.1, (f.2.1, (f.2.2.1, (f.2.2.2.1, (f.2.2.2.2.1, (f.2.2.2.2.2.1, ())))))), ((g.1, (g.2.1, (g.2.2.1, (g.2.2.2.1, (g.2.2.2.2.1, (g.2.2.2.2.2.1, ())))))), ())) = some (decide (f = g), ()) := same_eq f g (hfew f hm)
    have e16 : r16 ((f.1, (f.2.1, (f.2.2.1, (f.2.2.2.1, (f.2.2.2.2.1, (f.2.2.2.2.2.1, ())))))), ((g.1, (g.2.1, (g.2.2.1, (g.2.2.2.1, (g.2.2.2.2.1, (g.2.2.2.2.2.1, ())))))), ())) = some (decide (f = g), ()) := rsame_eq f g (hw f hm) (hw g hm0) (hbf f hm) (hbf g hm0)
    have e17 : r17 ((f.1, (f.2.1, (f.2.2.1, (f.2.2.2.1, (f.2.2.2.2.1, (f.2.2.2.2.2.1, ())))))), ()) = some (featV f, ()) := r19_eq f (hsm f hm)
    have hle : (l.take i).length ≤ 1048576 := by rw [List.length_take]; omega
    have hle2 := List.length_filter_le (atB time) (l.take i)
    have hfit : fits (((l.take i).filter (atB time)).length + 1) 80 = true := fitsN (by omega) (by omega)
    have hu1 : upTo ((i : Int) + 1) (l.length : Int) = true := by have := upTo_nat (i := i + 1) (n := l.length) (by omega); simpa using this
    have hu2 : upTo (i : Int) ((i : Int) + 1) = true := by have := upTo_nat (i := i) (n := i + 1) (by omega); simpa using this
    have hn : Int.toNat ((i : Int) + 1) = i + 1 := by omega
    have hfl : (l.take (i + 1)).filter (atB time) = if atB time f = true then (l.take i).filter (atB time) ++ [f] else (l.take i).filter (atB time) := by
      rw [take_succ hf, List.filter_append, List.filter_cons]
      split <;> simp
    simp only [embA, dec_lt hi, inB_lt hi, inB_lt (i := 0) (show 0 < l.length by omega), Int.toNat_natCast, hf, cond_true, Option.bind_some, wrapS hi (show l.length ≤ 9223372036854775807 by omega), hu1, hu2, hn, one_at hf, hg, e12, e13, e14, e10, e10', e15, e16, e17, decide_true, Bool.not_true, Bool.and_self, cond_false, List.length_cons, List.length_nil, Nat.zero_add, hfit]
    have hz : inB (0 : Int) l.length = true := inB_lt (i := 0) (by omega)
    simp only [hz, cond_true]
    have e18 : featV f = 0 → r18 ((f.1, (f.2.1, (f.2.2.1, (f.2.2.2.1, (f.2.2.2.2.1, (f.2.2.2.2.2.1, ())))))), ()) = some (boxF f) := fun h0 => box_eq f (boxOk_of (featV_ok (hsm f hm) h0).1)
    have e19 : featV f = 0 → r19 ((f.1, (f.2.1, (f.2.2.1, (f.2.2.2.1, (f.2.2.2.2.1, (f.2.2.2.2.2.1, ())))))), ()) = some (boxF f) := fun h0 => bound_eq f (boxOk_of (featV_ok (hsm f hm) h0).1)
    rw [hfl]
    by_cases h0 : featV f = 0
    · simp only [decide_eq_true h0, cond_true, e18 h0, e19 h0, Option.bind_some, decide_true, Bool.and_self, Bool.not_true, cond_false]
      unfold atB
      cases k1 : decide (f.2.2.2.2.1 ≤ time) with
      | false => rfl
      | true =>
        cases k2 : decide (time < f.2.2.2.2.2.1) with
        | false => rfl
        | true => rfl
    · simp only [decide_eq_false h0, cond_false]
      unfold atB
      cases k1 : decide (f.2.2.2.2.1 ≤ time) with
      | false => rfl
      | true =>
        cases k2 : decide (time < f.2.2.2.2.2.1) with
        | false => rfl
        | true => rfl
  · simp only [embA, dec_nlt, cond_false]
  · rw [List.take_length]
    have hfw := whose_eq (l.filter (atB time)) (fun f hf => hw f (List.mem_filter.1 hf).1) (by simpa using hfil l.length)
    simp only [sumE, at_eq l time hlen hfew, Option.bind_some, hfw, decide_true, Bool.not_true, cond_false, r17_eq l hs]
    by_cases h0 : survV l = 0
    · obtain ⟨_, hasc⟩ := survV_ok h0
      simp only [decide_eq_true h0, Bool.not_true, cond_false, find_eq l id hlen hasc, index_eq l id hlen, Option.bind_some, decide_true]
    · simp only [decide_eq_false h0, Bool.not_false, cond_true]
theorem featTells_all (l : List DFea) (time id : Int) (key : ByteArray) (hs : small (.slice kFea) l) (_ : small (.int .i64) time) (_ : small (.int .i64) id) (_ : small .str key) (hb : bulkK (.slice kFea) l ≤ 1048576) (_ : bulkK (.int .i64) time ≤ 1048576) (_ : bulkK (.int .i64) id ≤ 1048576) (_ : bulkK .str key ≤ 1048576) :
    r4 (l, (time, (id, (key, ())))) = some (true, ()) := featTells_raw l time id key hs hb
end Go.Proofs.YtgabpbnndikheaaGreatDoor.I

namespace Go.Proofs.YtgabpbnndikheaaGreatDoor.I
open Go.RowKit Go.ChangeShapes
set_option linter.unusedVariables false
section
variable {H : Type} {enc : TypeId × Value → H}
theorem handed_of_cond {a : Assume} {C : Checked} {os : Os} {f : FuncId} {fn : Func} {s : OpenSpec} {k : (H : Type) → List (DataW H) → Bool} (hk : s.cond = some k) {F : Stop.Interp} {conds : List PathCond} {apart fresh handsOn again : Bool} {X : World → Array Value → Prop}
    (hX : ∀ (w w' : World) (args : Array Value), w.heap = w'.heap → X w args → X w' args)
    (own : ownKnob C.prog.godebug = none) (started : os.Started) (noInit : C.prog.inits.idxOf? f = none) (hfn : C.prog.funcs[f]? = some fn)
    (witness : ∃ (w : World) (tape : Tape) (i : Input), w.os = os ∧ (w.forCall tape i).Shaped C.prog ∧ i.vars = [] ∧ Input.okWide C.prog (w.forCall tape i) .any w.heap.size f i ∧
      ((s.pre enc C.prog fn conds apart (w.forCall tape i).memory i.args ∧ X (w.forCall tape i).memory i.args) ∧ sizedMet enc C.prog fn s apart (w.forCall tape i).memory i.args) ∧ a.holds C.prog (lone (Frame.enter C.prog f i.args .normal) [] (w.forCall tape i)))
    (contract : ∀ (W : World) (base : Nat) (args : Array Value) (ds gs : List (DataW H)) (before : List MemPlace),
      (∀ (j : Nat) t v, fn.params[j]? = some t → args[j]? = some v → Value.okWide C.prog W .any base t v) →
      DataW.Whole enc C.prog fn.params.toList s.vars apart W args.toList ds gs before → k H (ds ++ gs) = true → X W args →
      Calls C.prog f args W fun e W' => ∃ v, e = .returned v ∧ (s.at F).post enc C.prog fn apart fresh handsOn again W args v W') :
    ReturnsInHanded a C os f .any (fun w args => (s.pre enc C.prog fn conds apart w args ∧ X w args) ∧ sizedMet enc C.prog fn s apart w args) ((s.at F).post enc C.prog fn apart fresh handsOn again) := by
  refine returnsInHanded_of_calls own started noInit witness ?_
  intro w tape i _ _ _ hok hpre hholds
  obtain ⟨_, _, _, fn', hfn', _, _, _, _, hval⟩ := hok
  have e : fn' = fn := Option.some.inj (hfn'.symm.trans hfn)
  subst e
  obtain ⟨⟨hp, hx⟩, _⟩ := hpre
  obtain ⟨ds, gs, before, hw, hc, hkk⟩ := (OpenSpec.pre_some hk conds apart _ _).1 hp
  have hw' := DataW.Whole.of_heap (w' := w.forCall tape i) (by rfl) hw
  refine (contract (w.forCall tape i) w.heap.size i.args ds gs before hval hw' hkk (hX _ _ _ (by rfl) hx)).mono fun e W' ⟨v, he, hp⟩ => ?_
  subst he
  exact ChangeSpec.post_blind hp
theorem witness_cond {C : Checked} {os : Os} {f : FuncId} {fn : Func} {s : OpenSpec} {k : (H : Type) → List (DataW H) → Bool} (hk : s.cond = some k) {conds : List PathCond} {apart : Bool} {X : World → Array Value → Prop} (w0 : World) (args : Array Value) (fuel : Nat) (hos : w0.os = os)
    (hsh : (w0.forCall (fun _ _ => 0) ⟨#[], args, []⟩).Shaped C.prog)
    (hok : Input.okWideB C.prog (w0.forCall (fun _ _ => 0) ⟨#[], args, []⟩) f ⟨#[], args, []⟩ = true)
    {x : List (DataW H) × List (DataW H) × List MemPlace} (hx : DataW.whole enc C.prog (w0.forCall (fun _ _ => 0) ⟨#[], args, []⟩).memory fn.params.toList s.vars apart args.toList fuel = some x)
    (hconds : conds.all (PathCond.test C.prog ⟨fn.params.toList, x.1, s.bare.plain.varTypes C.prog, x.2.1⟩) = true) (hkk : k H (x.1 ++ x.2.1) = true)
    (hsz : s.bare.sizedB enc C.prog fn apart (w0.forCall (fun _ _ => 0) ⟨#[], args, []⟩).memory args fuel = true)
    (hX : X (w0.forCall (fun _ _ => 0) ⟨#[], args, []⟩).memory args) :
    ∃ (w : World) (tape : Tape) (i : Input), w.os = os ∧ (w.forCall tape i).Shaped C.prog ∧ i.vars = [] ∧ Input.okWide C.prog (w.forCall tape i) .any w.heap.size f i ∧
      ((s.pre enc C.prog fn conds apart (w.forCall tape i).memory i.args ∧ X (w.forCall tape i).memory i.args) ∧ sizedMet enc C.prog fn s apart (w.forCall tape i).memory i.args) ∧ ({} : Assume).holds C.prog (lone (Frame.enter C.prog f i.args .normal) [] (w.forCall tape i)) :=
  ⟨w0, fun _ _ => 0, ⟨#[], args, []⟩, hos, hsh, (Input.okWide_of_okWideB (base := 0) hok).1, (Input.okWide_of_okWideB hok).2,
    ⟨⟨(OpenSpec.pre_some hk conds apart _ _).2 ⟨x.1, x.2.1, x.2.2, DataW.Whole_of_whole hx, hconds, hkk⟩, hX⟩, sizedMet_of_sizedB hsz⟩, by
    simp only [Assume.holds]
    exact ⟨by simp, by simp, fun _ => Modest.zero, by simp, by simp⟩⟩
end
end Go.Proofs.YtgabpbnndikheaaGreatDoor.I

namespace Go.Proofs.YtgabpbnndikheaaGreatDoor.I
open Go.RowKit
theorem gTab_of_reads {P : Program} {w : World} {n : String} {k : IntKind} {zs : List Int} {t e : TypeId} {m : Nat} (h : Lib.VarReads P w n (Lib.tabData k zs)) (hty : ((P.globalNamed n).bind fun g => (P.globals[g]?).map (·.type)) = some t)
    (ht : P.underlying t = some (.array m e)) (he : P.underlying e = some (.int k)) (hce : P.cellsOf e = 1) (hct : P.cellsOf t = m) : Lib.TabIs P w n k zs := by
  obtain ⟨g', t', cs, fuel, p, hg', ht', hv, hd⟩ := h
  rw [hg', Option.bind_some] at hty
  obtain rfl := Option.some.inj (hty.symm.trans ht')
  unfold Lib.TabIs
  rw [hv, ← Lib.cells_of_tab ht he hce hct hd]
set_option maxRecDepth 100000 in
theorem gG_of_laid {w : World} {l : List (String × DataW Unit)} (h : laidMet Tryz.prog l w) (h3 : ("internal/strconv.uint64pow10", Rows.laid_internal_strconv_uint64pow10) ∈ l) : gG w :=
  gTab_of_reads (zs := Lib.pow10Tab) (Lib.laidMet.reads h h3) (by kernel_rfl) Tryz.underlying131 Tryz.underlying109 (by kernel_rfl) (by kernel_rfl)
end Go.Proofs.YtgabpbnndikheaaGreatDoor.I
