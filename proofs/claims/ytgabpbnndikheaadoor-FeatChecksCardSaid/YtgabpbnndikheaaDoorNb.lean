import Derived.Test.YtgabpbnndikheaaDoorNa
import Derived.Test.YtgabpbnndikheaaDoorGm
import Derived.Test.YtgabpbnndikheaaDoorVe
set_option linter.constructorNameAsVariable false
/-! Attributes. -/
namespace Go.Proofs.YtgabpbnndikheaaDoor
open Go.RowKit Go.Proofs.YtgabpbnndikheaaDoorW.PrintWords

structure Att where
  key : ByteArray
  val : Val
def Att.cells (a : Att) : Array Value := #[.string a.key, .int .i64 a.val.kind, .int .i64 a.val.n, .string a.val.s, .bool a.val.b]
def AttC (a : Att) (cs : List Value) : Prop := cs = [.string a.key, .int .i64 a.val.kind, .int .i64 a.val.n, .string a.val.s, .bool a.val.b] ∧ a.key.size ≤ 9223372036854775807 ∧ a.val.s.size ≤ 9223372036854775807
/-- A row of attributes that is read. -/
def RdT (w : World) (A : Option Addr) (l : List Att) : Prop := ReadsRow AttC 5 w A l.length l
theorem RdT.keep {w w' : World} {A : Option Addr} {l : List Att} (h : RdT w A l) (hb : Below w.heap.size w w') : RdT w' A l := h.imp_ hb fun _ _ h => h
def att (l : List Att) (i : Nat) : Att := l.getD i ⟨ByteArray.empty, ⟨0, 0, ByteArray.empty, false⟩⟩
theorem RdT.att {w : World} {A : Option Addr} {l : List Att} (h : RdT w A l) {i : Nat} (hi : i < l.length) :
    ∃ ad, A = some ad ∧ w.cell? (ad.add (i * 5)) = some (.string (att l i).key) ∧ w.cell? ⟨(ad.add (i * 5)).block, (ad.add (i * 5)).off + 1, none⟩ = some (.int .i64 (att l i).val.kind) ∧ w.cell? ⟨(ad.add (i * 5)).block, (ad.add (i * 5)).off + 2, none⟩ = some (.int .i64 (att l i).val.n)
      ∧ w.cell? ⟨(ad.add (i * 5)).block, (ad.add (i * 5)).off + 3, none⟩ = some (.string (att l i).val.s) ∧ w.cell? ⟨(ad.add (i * 5)).block, (ad.add (i * 5)).off + 4, none⟩ = some (.bool (att l i).val.b) ∧ (att l i).key.size ≤ 9223372036854775807 ∧ (att l i).val.s.size ≤ 9223372036854775807 := by
  have e2 : Go.Proofs.YtgabpbnndikheaaDoor.att l i = l[i] := by unfold Go.Proofs.YtgabpbnndikheaaDoor.att; rw [List.getD_eq_getElem?_getD, List.getElem?_eq_getElem hi]; rfl
  rw [e2]
  obtain ⟨ad, e, hc⟩ := h.2.2 (by omega)
  obtain ⟨c, hs, ⟨hr, h1, h2⟩, hcell⟩ := hc i _ (List.getElem?_eq_getElem hi)
  subst hr
  have c0 := hcell 0 _ rfl
  have c1 := hcell 1 _ rfl
  have c2 := hcell 2 _ rfl
  have c3 := hcell 3 _ rfl
  have c4 := hcell 4 _ rfl
  rw [Nat.add_zero] at c0
  rw [add_field _ _ _ (by omega)] at c1 c2 c3 c4
  exact ⟨ad, e, c0, c1, c2, c3, c4, h1, h2⟩
def BoxA (w : World) (g : Nat) (a : Att) : Prop := w.heap[g]? = some (.cells #[.string a.key, .int .i64 a.val.kind, .int .i64 a.val.n, .string a.val.s, .bool a.val.b] 75 (0, 0))
theorem BoxA.lt {w : World} {g : Nat} {x : Att} (h : BoxA w g x) : g < w.heap.size := by
  unfold BoxA at h
  exact (Array.getElem?_eq_some_iff.1 h).1
theorem BoxA.keep {w w' : World} {g : Nat} {x : Att} (h : BoxA w g x) (hb : Below w.heap.size w w') : BoxA w' g x := (hb.block g h.lt).trans h
theorem BoxA.cs {w : World} {g : Nat} {x : Att} (h : BoxA w g x) : w.cell? ⟨g, 0, none⟩ = some (.string x.key) ∧ w.cell? ⟨g, 1, none⟩ = some (.int .i64 x.val.kind) ∧ w.cell? ⟨g, 2, none⟩ = some (.int .i64 x.val.n) ∧ w.cell? ⟨g, 3, none⟩ = some (.string x.val.s) ∧ w.cell? ⟨g, 4, none⟩ = some (.bool x.val.b) := by
  unfold BoxA at h
  simp [World.cell?, h]
theorem boxA_c {P : Program} {g : FuncId} {args : Array Value} {K : Ending → World → Prop} {w : World} {k s : ByteArray} {m n : Int} {b : Bool}
    (h : ∀ w0, Aside0 (Below w.heap.size w w0) → Aside0 (BoxA w0 w.heap.size ⟨k, ⟨m, n, s, b⟩⟩) → Calls P g args w0 K) : Calls P g args (w.alloc (.cells #[.string k, .int .i64 m, .int .i64 n, .string s, .bool b] 75)) K :=
  h _ ⟨below_alloc' (Below.refl _ _) _⟩ ⟨heap_alloc_new w _⟩
/-- The second text is not behind the first one. -/
def notLess (p k : ByteArray) : Bool := !Op.bytesLess p.toList k.toList
def attErr (l : List Att) (nils : Bool) (i : Nat) : Int := if nameOk (att l i).key = false then 16 else if 0 < i ∧ notLess (att l (i - 1)).key (att l i).key = true then 9 else if checkVal (att l i).val ≠ 0 then checkVal (att l i).val else if (att l i).val.kind = 0 ∧ nils = false then 3 else 0
def attrsUpto (l : List Att) (nils : Bool) : Nat → Int
  | 0 => 0
  | n + 1 => if attrsUpto l nils n = 0 then attErr l nils n else attrsUpto l nils n
theorem attrsUpto_stay {l : List Att} {nils : Bool} {i n : Nat} (hi : i < n) (h : attrsUpto l nils i = 0) (h2 : attErr l nils i ≠ 0) : attrsUpto l nils n = attErr l nils i := by
  induction n with
  | zero => omega
  | succ n ih =>
    by_cases hin : i = n
    · subst hin
      rw [attrsUpto, if_pos h]
    · have := ih (by omega)
      rw [attrsUpto, if_neg (by rw [this]; exact h2), this]
def attrsErr (l : List Att) (nils : Bool) : Int := if 8 < l.length then 2 else attrsUpto l nils l.length
set_option maxHeartbeats 4000000 in
set_option maxRecDepth 100000 in
theorem attrs_any (l : List Att) (nils : Bool) (A : Option Addr) (c : Nat) (w : World) (h : RdT w A l) :
    Calls Tryd.prog 22 #[.slice A l.length c, .bool nils] w fun e w' => e = .returned (.int .i64 (attrsErr l nils)) ∧ Below w.heap.size w w' := by
  obtain ⟨R, hR⟩ : ∃ R, R = attrsErr l nils := ⟨_, rfl⟩
  rw [← hR]
  unfold attrsErr at hR
  have HR := Aside0.mk h
  have hbig := h.2.1
  clear h
  by_cases h8 : 8 < l.length
  · rw [if_pos h8] at hR
    have d1 : decide ((8 : Int) < (l.length : Int)) = true := by simp; omega
    subst hR
    go_enter Tryd.func22, Tryd.ntmps22
    go_wp2
    go_ret
    exact ⟨rfl, Below.refl _ _⟩
  rw [if_neg h8] at hR
  have d1 : decide ((8 : Int) < (l.length : Int)) = false := by simp; omega
  have HD := Aside0.mk hR
  clear hR
  go_enter Tryd.func22, Tryd.ntmps22
  go_wp2
  go_loopw [13] (fun u wr => ∃ i : Nat, u = .int .i64 i ∧ i ≤ l.length ∧ Aside0 (attrsUpto l nils i = 0) ∧ Aside0 (Below w.heap.size w wr)) (fun u _ => l.length - (intOf u).toNat)
  case atStart => exact ⟨0, rfl, Nat.zero_le _, ⟨rfl⟩, ⟨Below.refl _ _⟩⟩
  case round =>
    obtain ⟨i, rfl, hi0, HN, HB1⟩ := hrel
    by_cases hi : i < l.length
    · have hd : decide ((i : Int) < (l.length : Int)) = true := by simp; omega
      have hd' : ¬ l.length ≤ i := by omega
      have HS := Aside0.mk (fun e : attErr l nils i ≠ 0 => attrsUpto_stay hi HN.out e)
      have HT := Aside0.mk (fun e : attErr l nils i = 0 => (by rw [attrsUpto, if_pos HN.out]; exact e : attrsUpto l nils (i + 1) = 0))
      obtain ⟨E, hE⟩ : ∃ E, E = attErr l nils i := ⟨_, rfl⟩
      rw [← hE] at HS HT
      unfold attErr at hE
      obtain ⟨i', hii⟩ : ∃ i', i' = i - 1 := ⟨_, rfl⟩
      rw [← hii] at hE
      have HE := Aside0.mk hE
      clear hE
      obtain ⟨ad, rfl, k0, k1, k2, k3, k4, hks, hss⟩ := (HR.out.keep HB1.out).att hi
      have HC := Aside0.mk (fun W => name_any (att l i).key W hks)
      have HV := Aside0.mk (fun W => check_any (att l i).val W hss)
      generalize att l i = a at *
      generalize hpk : (att l i').key = pk at *
      have hR' := HR.out.keep HB1.out
      have HRA : Aside0 (i' < l.length → ∀ W, Below wr.heap.size wr W → W.cell? (ad.add (i' * 5)) = some (.string pk)) := ⟨fun hi' W hW => by
        obtain ⟨_, e0, q0, -⟩ := (hR'.keep hW).att hi'
        injection e0 with e0
        subst e0
        rw [hpk] at q0
        exact q0⟩
      clear hpk hR'
      obtain ⟨key, val⟩ := a
      simp only at k0 k1 k2 k3 k4 HC HV HE
      generalize nameOk key = b at *
      generalize checkVal val = m at *
      obtain ⟨vk, vn, vs, vb⟩ := val
      simp only [Val.v] at k0 k1 k2 k3 k4 HV HE
      cases b
      · rw [if_pos rfl] at HE
        go_wp2_with (go_at_call 14; refine boxA_c fun w2 HB2 HX => ?_; (with_reducible refine (HC.out _).mono ?_); rintro e w3 ⟨rfl, rfl⟩; have HB3 := Aside0.mk (below_call HB1.out HB2.out); clear HB2)
        go_ret
        refine ⟨i64_ret ?_, HB3.out⟩
        rw [HD.out, HS.out (by rw [HE.out]; decide), HE.out]
      · rw [if_neg (by decide)] at HE
        go_wp2_with (go_at_call 14; refine boxA_c fun w2 HB2 HX => ?_; (with_reducible refine (HC.out _).mono ?_); rintro e w3 ⟨rfl, rfl⟩; have HB3 := Aside0.mk (below_call HB1.out HB2.out); have HBB := HB2; clear HB2)
        have HBw := Aside0.mk (show Below wr.heap.size wr w2 from HBB.out)
        clear HBB HC k0 k1 k2 k3 k4 hks hss
        by_cases hz : 0 < i
        · have hi' : i' < l.length := by omega
          have n3 : IntKind.i64.wrap ((i : Int) - 1) = (i' : Int) := by rw [IntKind.wrap_i64]; omega
          have n2 : (i' : Int) < (l.length : Int) := by omega
          have HRB := Aside0.mk (HRA.out hi')
          clear hii HRA
          refine wp_region_loc (by kernel_rfl) (by kernel_rfl) (by kernel_rfl) (fun xs => by simp only [fill, Act.put, List.setIfInBounds_toArray, List.set_cons_zero, List.set_cons_succ, Nat.reduceAdd]; rfl) ?_
          iterate 13 (apply wpLoc_det; · (intro vs2 W hb he; obtain ⟨q1, -, -, -, -⟩ := (HX.out.keep hb).cs; have q2 := HRB.out W (HBw.out.trans (hb.mono HBw.out.size)); simp only at q1; simp [edgeSat, Region.binds, Fact.at_] at he; unfold locRun; go_simp; first | exact loc_val))
          refine wpLoc_nil fun vs2 W hb he => ?_
          simp only [List.nil_append, List.cons_append, factsAll, Fact.at_, Nat.reduceAdd] at he
          obtain ⟨-, -, -, -, -, -, -, -, -, -, -, -, e12, -⟩ := he
          rw [e12]
          have HB4 := Aside0.mk (below_call HB3.out hb)
          have HX4 := Aside0.mk (HX.out.keep hb)
          have HF : Aside0 (E = if (!Op.bytesLess pk.toList key.toList) = true then 9 else if m ≠ 0 then m else if vk = 0 ∧ nils = false then 3 else 0) := ⟨by
            rw [HE.out]
            unfold notLess
            by_cases hf : (!Op.bytesLess pk.toList key.toList) = true
            · rw [if_pos ⟨hz, hf⟩, if_pos hf]
            · rw [if_neg (fun h => hf h.2), if_neg hf]⟩
          generalize (!Op.bytesLess pk.toList key.toList) = f at *
          clear e12 hb HRB HX HB3 HE n2 n3
          cases f
          · rw [if_neg (by decide)] at HF
            obtain ⟨q0, q1, q2, q3, q4⟩ := HX4.out.cs
            simp only at q0 q1 q2 q3 q4
            by_cases hm : m = 0
            · subst hm
              rw [if_neg (by simp)] at HF
              by_cases hk : vk = 0
              · subst hk
                cases nils
                · rw [if_pos ⟨rfl, rfl⟩] at HF
                  go_wp2_with (go_at_call 10; (with_reducible refine (HV.out _).mono ?_); rintro e w5 ⟨rfl, hB⟩; have HB5 := Aside0.mk (below_call HB4.out hB); obtain ⟨p0, p1, p2, p3, p4⟩ := (HX4.out.keep hB).cs; simp only at p0 p1 p2 p3 p4; clear hB)
                  go_ret
                  refine ⟨i64_ret ?_, HB5.out⟩
                  rw [HD.out, HS.out (by rw [HF.out]; decide), HF.out]
                · rw [if_neg (by simp)] at HF
                  go_wp2_with (go_at_call 10; (with_reducible refine (HV.out _).mono ?_); rintro e w5 ⟨rfl, hB⟩; have HB5 := Aside0.mk (below_call HB4.out hB); obtain ⟨p0, p1, p2, p3, p4⟩ := (HX4.out.keep hB).cs; simp only at p0 p1 p2 p3 p4; clear hB)
                  go_roundw
                  case rel => exact ⟨i + 1, rfl, by omega, ⟨HT.out HF.out⟩, HB5⟩
                  case measure => simp only [intOf]; omega
              · have hkb : (vk == 0) = false := by simpa using hk
                rw [if_neg (fun h => hk h.1)] at HF
                go_wp2_with (go_at_call 10; (with_reducible refine (HV.out _).mono ?_); rintro e w5 ⟨rfl, hB⟩; have HB5 := Aside0.mk (below_call HB4.out hB); obtain ⟨p0, p1, p2, p3, p4⟩ := (HX4.out.keep hB).cs; simp only at p0 p1 p2 p3 p4; clear hB)
                go_roundw
                case rel => exact ⟨i + 1, rfl, by omega, ⟨HT.out HF.out⟩, HB5⟩
                case measure => simp only [intOf]; omega
            · rw [if_pos hm] at HF
              have hmb : (m == 0) = false := by simpa using hm
              have hmb2 : (m != 0) = true := by simpa using hm
              go_wp2_with (go_at_call 10; (with_reducible refine (HV.out _).mono ?_); rintro e w5 ⟨rfl, hB⟩; have HB5 := Aside0.mk (below_call HB4.out hB); clear hB)
              go_ret
              refine ⟨i64_ret ?_, HB5.out⟩
              rw [HD.out, HS.out (by rw [HF.out]; exact hm), HF.out]
          · rw [if_pos rfl] at HF
            go_wp2
            go_ret
            refine ⟨i64_ret ?_, HB4.out⟩
            rw [HD.out, HS.out (by rw [HF.out]; decide), HF.out]
        · have hi0' : i = 0 := by omega
          clear HRA hii
          refine wp_region_loc (by kernel_rfl) (by kernel_rfl) (by kernel_rfl) (fun xs => by simp only [fill, Act.put, List.setIfInBounds_toArray, List.set_cons_zero, List.set_cons_succ, Nat.reduceAdd]; rfl) ?_
          iterate 13 (first | (apply wpLoc_det; · (intro vs2 W hb he; obtain ⟨q1, -, -, -, -⟩ := (HX.out.keep hb).cs; simp only at q1; simp [edgeSat, Region.binds, Fact.at_] at he; unfold locRun; go_simp; first | exact loc_val)) | (apply wpLoc_det undef; · (intro vs2 W hb he; simp [edgeSat, Region.binds, Fact.at_] at he; go_simp; done)))
          refine wpLoc_nil fun vs2 W hb he => ?_
          simp only [List.nil_append, List.cons_append, factsAll, Fact.at_, Nat.reduceAdd] at he
          obtain ⟨-, -, -, -, -, -, -, -, -, -, -, -, e12, -⟩ := he
          rw [e12]
          have HB4 := Aside0.mk (below_call HB3.out hb)
          have HX4 := Aside0.mk (HX.out.keep hb)
          have HF : Aside0 (E = if m ≠ 0 then m else if vk = 0 ∧ nils = false then 3 else 0) := ⟨by rw [HE.out, if_neg (fun h => hz h.1)]⟩
          clear e12 hb HX HB3 HE hi0'
          obtain ⟨q0, q1, q2, q3, q4⟩ := HX4.out.cs
          simp only at q0 q1 q2 q3 q4
          by_cases hm : m = 0
          · subst hm
            rw [if_neg (by simp)] at HF
            by_cases hk : vk = 0
            · subst hk
              cases nils
              · rw [if_pos ⟨rfl, rfl⟩] at HF
                go_wp2_with (go_at_call 10; (with_reducible refine (HV.out _).mono ?_); rintro e w5 ⟨rfl, hB⟩; have HB5 := Aside0.mk (below_call HB4.out hB); obtain ⟨p0, p1, p2, p3, p4⟩ := (HX4.out.keep hB).cs; simp only at p0 p1 p2 p3 p4; clear hB)
                go_ret
                refine ⟨i64_ret ?_, HB5.out⟩
                rw [HD.out, HS.out (by rw [HF.out]; decide), HF.out]
              · rw [if_neg (by simp)] at HF
                go_wp2_with (go_at_call 10; (with_reducible refine (HV.out _).mono ?_); rintro e w5 ⟨rfl, hB⟩; have HB5 := Aside0.mk (below_call HB4.out hB); obtain ⟨p0, p1, p2, p3, p4⟩ := (HX4.out.keep hB).cs; simp only at p0 p1 p2 p3 p4; clear hB)
                go_roundw
                case rel => exact ⟨i + 1, rfl, by omega, ⟨HT.out HF.out⟩, HB5⟩
                case measure => simp only [intOf]; omega
            · have hkb : (vk == 0) = false := by simpa using hk
              rw [if_neg (fun h => hk h.1)] at HF
              go_wp2_with (go_at_call 10; (with_reducible refine (HV.out _).mono ?_); rintro e w5 ⟨rfl, hB⟩; have HB5 := Aside0.mk (below_call HB4.out hB); obtain ⟨p0, p1, p2, p3, p4⟩ := (HX4.out.keep hB).cs; simp only at p0 p1 p2 p3 p4; clear hB)
              go_roundw
              case rel => exact ⟨i + 1, rfl, by omega, ⟨HT.out HF.out⟩, HB5⟩
              case measure => simp only [intOf]; omega
          · rw [if_pos hm] at HF
            have hmb : (m == 0) = false := by simpa using hm
            have hmb2 : (m != 0) = true := by simpa using hm
            go_wp2_with (go_at_call 10; (with_reducible refine (HV.out _).mono ?_); rintro e w5 ⟨rfl, hB⟩; have HB5 := Aside0.mk (below_call HB4.out hB); clear hB)
            go_ret
            refine ⟨i64_ret ?_, HB5.out⟩
            rw [HD.out, HS.out (by rw [HF.out]; exact hm), HF.out]
    · have hd : decide ((i : Int) < (l.length : Int)) = false := by simp; omega
      go_wp2
      go_ret
      refine ⟨i64_ret ?_, HB1.out⟩
      rw [HD.out, show l.length = i by omega, HN.out]
end Go.Proofs.YtgabpbnndikheaaDoor
