import Derived.Test.YtgabpbnndikheaaDoorGm
set_option linter.constructorNameAsVariable false
/-! Areas: on which sides the edges are. -/
namespace Go.Proofs.YtgabpbnndikheaaDoor
open Go.RowKit Go.Proofs.YtgabpbnndikheaaDoorW.PrintWords

def IntC (n : Int) (cs : List Value) : Prop := cs = [.int .i64 n]
def RdI (w : World) (A : Option Addr) (l : List Int) : Prop := ReadsRow IntC 1 w A l.length l
theorem RdI.at_ {w : World} {A : Option Addr} {l : List Int} (h : RdI w A l) {i : Nat} (hi : i < l.length) : ∃ ad, A = some ad ∧ w.cell? (ad.add i) = some (.int .i64 l[i]) := by
  obtain ⟨ad, e, hc⟩ := h.2.2 (by omega)
  obtain ⟨c, hs, hr, hcell⟩ := hc i _ (List.getElem?_eq_getElem hi)
  have hr' : c = [.int .i64 l[i]] := hr
  subst hr'
  refine ⟨ad, e, ?_⟩
  have := hcell 0 _ rfl
  rwa [Nat.mul_one, Nat.add_zero] at this
set_option maxHeartbeats 1000000 in
set_option maxRecDepth 100000 in
theorem idxN_any (l : List Int) (x : Int) (A : Option Addr) (c : Nat) (w : World) (h : RdI w A l) :
    Calls Tryd.prog 145 #[.slice A l.length c, .int .i64 x] w fun e w' => e = .returned (.int .i64 (idxI (fun y => x == y) l)) ∧ w = w' := by
  have hbig := h.2.1
  have HR := Aside0.mk h
  clear h
  obtain ⟨R, hR⟩ : ∃ R, R = idxI (fun y => x == y) l := ⟨_, rfl⟩
  rw [← hR]
  have HD := Aside0.mk hR
  clear hR
  go_enter Tryd.func145, Tryd.ntmps145
  go_wp2
  go_loopw [8] (fun u wr => ∃ i : Nat, u = .int .i64 i ∧ i ≤ l.length ∧ Aside0 (∀ y ∈ l.take i, (x == y) = false) ∧ w = wr) (fun u _ => l.length - (intOf u).toNat)
  case atStart => exact ⟨0, rfl, Nat.zero_le _, ⟨by simp⟩, rfl⟩
  case round =>
    obtain ⟨i, rfl, hi0, HN, rfl⟩ := hrel
    by_cases hi : i < l.length
    · have hd : decide ((i : Int) < (l.length : Int)) = true := by simp; omega
      have hdd : ¬ l.length ≤ i := by omega
      obtain ⟨ad, rfl, k5⟩ := HR.out.at_ hi
      have HS := Aside0.mk (fun h => idxI_some hi HN.out h)
      have HT := Aside0.mk (fun h => take_next (P := fun y => (x == y) = false) hi HN.out h)
      generalize l[i] = y at k5 HS HT
      by_cases hxy : x = y
      · subst hxy
        go_wp2
        go_ret
        exact ⟨i64_ret (by rw [HD.out, HS.out (by simp)]), rfl⟩
      · have hne : (x == y) = false := by simpa using hxy
        go_wp2
        go_roundw
        case rel => exact ⟨i + 1, rfl, by omega, ⟨HT.out hne⟩, by first | rfl | trivial⟩
        case measure => simp only [intOf]; omega
    · have hd : decide ((i : Int) < (l.length : Int)) = false := by simp; omega
      go_wp2
      go_ret
      refine ⟨i64_ret ?_, rfl⟩
      rw [HD.out, idxI_none (fun y hy => HN.out y (by rw [List.take_of_length_le (by omega)]; exact hy))]
set_option maxRecDepth 100000 in
theorem hasN_any (l : List Int) (x : Int) (A : Option Addr) (c : Nat) (w : World) (h : RdI w A l) :
    Calls Tryd.prog 130 #[.slice A l.length c, .int .i64 x] w fun e w' => e = .returned (.bool (l.contains x)) ∧ w = w' := by
  have hcall := idxN_any l x A c w h
  have hb := idxI_any (fun y => x == y) l
  have he : (l.any fun y => x == y) = l.contains x := by rw [List.contains_eq_any_beq]
  rw [he] at hb
  generalize idxI (fun y => x == y) l = n at *
  generalize l.contains x = b at *
  have HC := Aside0.mk hcall
  clear h he hcall
  go_enter Tryd.func130, Tryd.ntmps130
  go_wp2_with (refine HC.out.mono ?_; rintro e w1 ⟨rfl, rfl⟩)
  go_ret
  exact ⟨bool_ret (by rw [← hb]), rfl⟩

def OwnI (w : World) (base : Nat) (v : Value) (l : List Int) : Prop := OwnRow IntC 3 1 w base v l
def addI (l : List Int) (n : Int) : List Int := if l.contains n then l else l ++ [n]
def sidesUpto (r s : List Pt) : Nat → List Int
  | 0 => []
  | i + 1 => addI (sidesUpto r s i) (side r i s)
def sides (r s : List Pt) : List Int := sidesUpto r s r.length
theorem sidesUpto_len (r s : List Pt) (i : Nat) : (sidesUpto r s i).length ≤ i := by
  induction i with
  | zero => simp [sidesUpto]
  | succ i ih =>
    simp only [sidesUpto, addI]
    split
    · omega
    · simp; omega
set_option maxHeartbeats 2000000 in
set_option maxRecDepth 100000 in
theorem sides_any (r s : List Pt) (A A' : Option Addr) (c c' : Nat) (w : World) (h : RdP w A r) (hl : r.length ≤ 140737488355328) (hm : r.length ≤ 1000000) (h' : RdP w A' s) (hl' : s.length ≤ 140737488355328) :
    Calls Tryd.prog 114 #[.slice A r.length c, .slice A' s.length c'] w fun e w' => ∃ A1 c1, e = .returned (.slice A1 (sides r s).length c1) ∧ Below w.heap.size w w' := by
  have HR := Aside0.mk h
  have HS := Aside0.mk h'
  clear h h'
  go_enter Tryd.func114, Tryd.ntmps114
  go_wp2
  go_loopw [10, 5] (fun u v wr => ∃ i : Nat, u = .int .i64 i ∧ i ≤ r.length ∧ Aside0 (OwnI wr w.heap.size v (sidesUpto r s i)) ∧ Aside0 (Below w.heap.size w wr)) (fun u _ _ => r.length - (intOf u).toNat)
  case atStart => exact ⟨0, rfl, Nat.zero_le _, ⟨OwnRow.none_ _ _ _ _ _⟩, ⟨Below.refl _ _⟩⟩
  case round =>
    obtain ⟨i, rfl, hi0, HO, HB⟩ := hrel
    obtain ⟨A1, c1, rfl, hl1, hrd⟩ := OwnRow.reads HO.out
    by_cases hi : i < r.length
    · have hd : decide ((i : Int) < (r.length : Int)) = true := by simp; omega
      have hlen := sidesUpto_len r s i
      have HN := Aside0.mk (show sidesUpto r s (i + 1) = addI (sidesUpto r s i) (side r i s) from rfl)
      have HC := Aside0.mk (side_any r s A A' c c' i wr (HR.out.keep HB.out) hl (HS.out.keep HB.out) hl' hi)
      obtain ⟨L, hL⟩ : ∃ L, L = sidesUpto r s (i + 1) := ⟨_, rfl⟩
      have HL := Aside0.mk hL
      rw [← hL] at HN
      clear hL
      generalize sidesUpto r s i = l at *
      generalize side r i s = n at *
      have HRI : Aside0 (RdI wr A1 l) := ⟨hrd⟩
      clear hrd
      have HH := Aside0.mk (hasN_any l n A1 c1)
      have hbnd := hi
      unfold addI at HN
      generalize hb : l.contains n = b at *
      clear hb
      obtain ⟨inner, how, hrep⟩ := HO.out
      have HOW := Aside0.mk how
      have HRE := Aside0.mk hrep
      clear how hrep
      cases b
      · rw [if_neg (by decide)] at HN
        go_wp2_with (first
          | (go_at_call 129; refine HC.out.mono ?_; rintro e w1 ⟨rfl, hB⟩; have HOW1 := Aside0.mk (pw_own_below HOW.out hB); have HRI1 := Aside0.mk (HRI.out.imp_ hB fun _ _ h => h); have HB1 := Aside0.mk (below_call HB.out hB); clear hB)
          | (go_at_call 130; refine (HH.out w1 HRI1.out).mono ?_; rintro e w2 ⟨rfl, rfl⟩)
          | (at_builtin; refine print_append_cells (w0 := w) w.heap.size rfl (.tmp 21) (.tmp 23) 80 3 (.int .i64 0) 1 8 rfl Tryd.underlying80 (by kernel_rfl) rfl (by decide) (by decide) _ l.length inner [.int .i64 n] rfl rfl rfl (by simp [Value.oneCell']) HOW1.out HB1.out HB1.out.size (by omega) ?_; intro v1 w2 hown hb2 hgr hat; have HOW2 := Aside0.mk hown; have HB2 := Aside0.mk hb2; clear hown hb2 hgr hat))
        go_roundw
        case rel =>
          refine ⟨i + 1, rfl, by omega, ⟨?_⟩, HB2⟩
          rw [← HL.out, HN.out]
          exact ⟨_, by rw [List.length_append]; exact HOW2.out, HRE.out.snoc rfl rfl⟩
        case measure => simp only [intOf]; omega
      · rw [if_pos rfl] at HN
        go_wp2_with (first
          | (go_at_call 129; refine HC.out.mono ?_; rintro e w1 ⟨rfl, hB⟩; have HOW1 := Aside0.mk (pw_own_below HOW.out hB); have HRI1 := Aside0.mk (HRI.out.imp_ hB fun _ _ h => h); have HB1 := Aside0.mk (below_call HB.out hB); clear hB)
          | (go_at_call 130; refine (HH.out w1 HRI1.out).mono ?_; rintro e w2 ⟨rfl, rfl⟩))
        go_roundw
        case rel =>
          refine ⟨i + 1, rfl, by omega, ⟨?_⟩, HB1⟩
          rw [← HL.out, HN.out]
          exact ⟨_, HOW1.out, HRE.out⟩
        case measure => simp only [intOf]; omega
    · have hd : decide ((i : Int) < (r.length : Int)) = false := by simp; omega
      have hii : i = r.length := by omega
      subst hii
      go_wp2
      go_ret
      exact ⟨A1, c1, rfl, HB.out⟩
end Go.Proofs.YtgabpbnndikheaaDoor
