import Derived.Test.YtdfgfjnpllncdaaGreatDoorXc2
import Derived.Deep.Slices
import Derived.ChangeArms
import Derived.Below
import Derived.Deep.Quiet
import Derived.Deep.Draws
import Derived.Deep.AppendLies
import Derived.Maps.AppendAt
import Derived.OwnWalk
import Derived.Laws.BytesArg
import Derived.Laws.MakeOwn
import Derived.Laws.OwnMore
import Derived.Deep.OwnRows
import Derived.Tactics
import Derived.Lib.ConvBytes
import Derived.Laws.Slices
import Derived.WalkKit
import Derived.KernelRfl
import Derived.RowKit3
import Derived.Deep.LoopGhost
import Derived.Deep.QuietTactic
import Derived.BigQuiet
import Derived.WideLaws
import Derived.Deep.DeepCutAuto
import Derived.Deep.CutBlock
import Derived.Deep.RegionHeld3
import Derived.Laws.Rows
import Derived.Lib.AppendStr
import Derived.ArgAppend
import Derived.Laws.IdiomCopy
import Derived.RowKit
import Derived.WalkSpells
import Derived.WalkLawsBesides
import Derived.Lib.Hide
import Derived.Test.YtdfgfjnpllncdaaGreatDoorProg
import Derived.Laws.StructEq
import Derived.Shelf.Strings.Builder1
import Derived.Shelf.Strings.Builder2
import Derived.Shelf.Strings.OnBuilder
import Derived.Shelf.Strings.Trim
import Derived.Shelf.Small.Utf8
import Derived.Shelf.Small.Strs
import Derived.Shelf.Small.Wraps
import Derived.Shelf.Strings.BuilderF
import Derived.Shelf.Strings.BuilderK
import Derived.Shelf.Strings.Builder2Cap
import Derived.Shelf.Strconv.Atoi
import Derived.Shelf.Strconv.Itoa0
import Derived.Shelf.Strconv.Itoa1
import Derived.Shelf.LaysM
import Derived.Shelf.Strconv.Itoa2
import Derived.Shelf.Strconv.Itoa3
import Derived.Shelf.Strconv.Itoa4
import Derived.Shelf.Strconv.AtoiErrFast
import Derived.Shelf.Strconv.ParseIntEmpty
import Derived.Shelf.Strconv.AtoiFail
import Derived.Shelf.Strconv.Clone
import Derived.Shelf.Strconv.SyntaxError
import Derived.Shelf.LaysC
import Derived.Shelf.Strconv.ToError
import Derived.Shelf.Strconv.AtoiErr
import Derived.Shelf.Strconv.ErrVar
import Derived.Shelf.Strconv.Lower
import Derived.Shelf.Strconv.ParseUint10
import Derived.Shelf.Strconv.ParseUint10Empty
import Derived.Shelf.Strconv.ParseUint10Any
import Derived.Shelf.Strconv.ParseInt10
import Derived.Shelf.Strconv.AtoiLong
import Derived.Shelf.Strconv.AtoiInnerAll
import Derived.Shelf.Strconv.RangeError
import Derived.Shelf.Strconv.ToErrorRange
import Derived.Shelf.Strconv.AtoiAll
import Derived.Shelf.Strconv.ErrVarAll
import Derived.Shelf.Strconv.ParseUintEmpty
import Derived.Shelf.Strconv.ParseUint10b64
import Derived.Shelf.Strconv.ParseUint10b32
import Derived.Shelf.Strconv.ParseUint10b16
import Derived.Shelf.Strconv.ParseUint10b8
import Derived.Shelf.Strconv.ParseUint10At
import Derived.Shelf.Strconv.ParseInt10At64
import Derived.Shelf.Strconv.ParseInt10At32
import Derived.Shelf.Strconv.ParseInt10At16
import Derived.Shelf.Strconv.ParseInt10At8
import Derived.Shelf.Strconv.ParseInt10All
import Derived.Shelf.Strconv.ParseIntPublic10
import Derived.Shelf.Strconv.ErrVarParseInt
import Derived.Shelf.Strings.Search1
import Derived.Shelf.Strings.Search2
import Derived.Shelf.Strings.Search3
import Derived.Shelf.Strings.Shaped
import Derived.Shelf.GgClosure.StringsIndexFunc
import Derived.Ground.GgwProg
import Derived.Shelf.GgClosure.StringsIndexFuncTop
import Derived.Shelf.GgClosure.StringsRunes
import Derived.Shelf.Strings.Prefix
import Derived.Shelf.Strings.Fields
import Derived.Shelf.Unicode.Latin
import Derived.Shelf.Strings.Runes
import Derived.Shelf.Strings.AsciiSet
import Derived.Shelf.Unicode.DecodeSlow
import Derived.Shelf.Unicode.DecodeAny
import Derived.Shelf.Unicode.Is16White
import Derived.Shelf.Unicode.IsSpaceAny
import Derived.Shelf.Unicode.DecodeLast
import Derived.Shelf.Unicode.Is16WhiteD
import Derived.Shelf.Unicode.IsSpaceAnyD
import Derived.Shelf.Strings.FieldsAny
import Derived.Shelf.Strings.FieldsFuncAny
import Derived.Shelf.Unicode.Is16Any
import Derived.Shelf.Unicode.Is32Any
import Derived.Shelf.Unicode.ExclAny
import Derived.Shelf.Strings.FuncGrows
import Derived.Shelf.Strings.BuilderCap
import Derived.Shelf.Slices.Turned
import Derived.Lib.AsciiSet
import Derived.Deep.WholeRow
import Derived.Laws.RangeString
import Derived.Lib.LaidTab
import Derived.Lib.AtoiAll
set_option linter.unusedSimpArgs false
set_option linter.unusedVariables false
namespace Go.Proofs.YtdfgfjnpllncdaaGreatDoor.I
open Go.RowKit
set_option linter.unusedVariables false
theorem argsAs_up {h h' : Hp} {φ φ' : Lab} {w w' : World} {M M' : Nat → Prop} (hk : Keeps w M w' M') : ∀ (vs : List AV) (us : List Value), (∀ p, labIns p vs) → repVs h φ w M vs us → repVs h' φ' w' M' vs us
  | [], us, _, e => by simpa only [repVs] using e
  | v :: vs, us, hp, e => by
    simp only [repVs] at e ⊢
    obtain ⟨u, us', h1, h2, h3⟩ := e
    exact ⟨u, us', h1, argsA_up hk (fun p => by have := hp p; simp only [labIns] at this; exact this.1) h2, argsAs_up hk vs us' (fun p => by have := hp p; simp only [labIns] at this; exact this.2) h3⟩
theorem concM_key {ss : List ASh} {n0 : Nat} {vs : List (Nat × List ASh)} {dd : List Nat} {d : (kdL ss).T} {nx k : Nat} (hk : k ∈ keys vs) : (concM ss n0 vs dd d nx : Hp).get k ≠ none := by
  unfold concM
  rw [get_append]
  cases (concHL ss d nx : Hp).get k with
  | some C => simp
  | none =>
    simp only
    rw [get_append]
    have := keys_entsV (vals := (concL ss d nx).drop n0) hk
    cases hv : (entsV vs ((concL ss d nx).drop n0) : Hp).get k with
    | some C => simp
    | none => exact absurd hv this
theorem concM_dead {ss : List ASh} {n0 : Nat} {vs : List (Nat × List ASh)} {dd : List Nat} {d : (kdL ss).T} {nx k : Nat} (hk : k ∈ dd) : (concM ss n0 vs dd d nx : Hp).get k ≠ none := by
  unfold concM
  rw [get_append]
  cases (concHL ss d nx : Hp).get k with
  | some C => simp
  | none =>
    simp only
    rw [get_append]
    cases hv : (entsV vs ((concL ss d nx).drop n0) : Hp).get k with
    | some C => simp
    | none => exact deads_mem hk
theorem absL_arr {H : Nat → Option Blk} : ∀ {ss : List ASh} {vs : List AV} {d : (kdL ss).T} {rs : List (Option Nat)}, absL ss H vs = some (d, rs) → ∀ l, some l ∈ rs → ∃ e xs, H l = some (.arr e xs true)
  | [], vs, d, rs, h, l, hl => by
    simp only [absL] at h
    split at h
    · simp only [Option.some.injEq, Prod.mk.injEq] at h
      rw [← h.2] at hl
      cases hl
    · cases h
  | s :: ss, vs, d, rs, h, l, hl => by
    simp only [absL] at h
    split at h
    · rename_i v vs
      split at h
      · rename_i x r hx
        split at h
        · rename_i xs rs' hxs
          simp only [Option.some.injEq, Prod.mk.injEq] at h
          rw [← h.2] at hl
          rcases List.mem_append.1 hl with hl | hl
          · cases s with
            | own e =>
              simp only [absA] at hx
              split at hx
              · split at hx
                · rename_i e' ys hB
                  split at hx
                  · simp only [Option.some.injEq, Prod.mk.injEq] at hx
                    rw [← hx.2] at hl
                    simp only [List.mem_singleton, Option.some.injEq] at hl
                    subst hl
                    exact ⟨e', ys, hB⟩
                  · cases hx
                · cases hx
              · simp only [Option.some.injEq, Prod.mk.injEq] at hx
                rw [← hx.2] at hl
                simp at hl
              · cases hx
            | lf e =>
              simp only [absA] at hx
              split at hx
              · split at hx
                · split at hx
                  · simp only [Option.some.injEq, Prod.mk.injEq] at hx
                    rw [← hx.2] at hl
                    cases hl
                  · cases hx
                · cases hx
              · cases hx
            | nili => simp only [absA] at hx; split at hx <;> first | (simp only [Option.some.injEq, Prod.mk.injEq] at hx; rw [← hx.2] at hl; cases hl) | cases hx
            | err => simp only [absA] at hx; split at hx <;> first | (simp only [Option.some.injEq, Prod.mk.injEq] at hx; rw [← hx.2] at hl; cases hl) | cases hx
            | nilp => simp only [absA] at hx; split at hx <;> first | (simp only [Option.some.injEq, Prod.mk.injEq] at hx; rw [← hx.2] at hl; cases hl) | cases hx
            | nils => simp only [absA] at hx; split at hx <;> first | (simp only [Option.some.injEq, Prod.mk.injEq] at hx; rw [← hx.2] at hl; cases hl) | cases hx
            | nilfn => simp only [absA] at hx; split at hx <;> first | (simp only [Option.some.injEq, Prod.mk.injEq] at hx; rw [← hx.2] at hl; cases hl) | cases hx
            | self T => simp only [absA] at hx; repeat' split at hx
                        all_goals first | (simp only [Option.some.injEq, Prod.mk.injEq] at hx; rw [← hx.2] at hl; cases hl) | cases hx
          · exact absL_arr hxs l hl
        · cases h
      · cases h
    · cases h
theorem res_of {h h' : Hp} {φ φ' : Lab} {w w' : World} {M M' : Nat → Prop} {rs : List Kd} {y : (kdP rs).T} {v : AV} {u : Value} {cs : List AV} (main : ∀ us', repVs h φ w M (resL rs v) us' → repVs h' φ' w' M' (argsA rs y) us') (hk : encVs rs (resL rs v) cs = some y) (hone : (flatV (resL rs v)).all AV.one = true) (hr1 : repV h φ w M v u) : repV h' φ' w' M' (resA rs y) u := by
  cases rs with
  | nil =>
    simp only [resL] at main hk
    cases v with
    | tup ws0 =>
      simp only [repV] at hr1
      obtain ⟨a0, rfl, q⟩ := hr1
      have := main _ q
      simp only [argsA, repVs] at this
      simp only [resA, argsA, repV, repVs]
      exact ⟨a0, rfl, this⟩
    | _ => simp [encVs] at hk
  | cons k rs =>
    cases rs with
    | nil =>
      have := main [u] ⟨u, [], rfl, hr1, rfl⟩
      simp only [argsA, repVs] at this
      obtain ⟨_, _, e1, q, _⟩ := this
      simp only [List.cons.injEq] at e1
      obtain ⟨rfl, _⟩ := e1
      exact q
    | cons k' rs =>
      simp only [resL] at main hk
      cases v with
      | tup ws0 =>
        simp only [repV] at hr1
        obtain ⟨a0, rfl, q⟩ := hr1
        have := main _ q
        simp only [resA, argsA, repV] at this ⊢
        exact ⟨a0, rfl, this⟩
      | _ => simp [resL, flatV, AV.cells, AV.one] at hone
section
variable {P : Program} {N : Nat} {G : World → Prop} {F : Specs} {hs : Nat → Option Hint}
theorem memSpec_ok (hst : Stays N G) (hF : ∀ g S, F g = some S → SpecOk P N G g S) (hmix : P.follows .mixedOrders = true) {g : FuncId} {fn : Func} {c : Code} {ags : List ArgT} {vs vsx : List (Nat × List ASh)} {rs : List Kd} {raw : (kdP (datK ags)).T → (kdL (flatL (snds vs))).T → Option ((kdP rs).T × (kdL (flatL (snds vsx))).T)}
    (hf : P.funcs[g]? = some fn) (hb : fn.body = some c) (hname : enters P g = true) (hstat : memOkS vs vsx = true)
    (hrun : ∀ x d, runFn P F hs fn c ((kdP rs).T × (kdL (flatL (snds vsx))).T) (argsM ags x) (concM (flatL (snds vs)) 0 vs [] d 64) 128 (finM rs vsx) = raw x d) : SpecOk P N G g (memSpec ags vs vsx rs raw) := by
  simp only [memOkS, Bool.and_eq_true] at hstat
  obtain ⟨⟨st1, st2⟩, st3, st4⟩ := hstat
  have st4 := eqKs_eq st4
  refine ⟨hname, fun X h φ w us vals fr v ws tm hs0 hE0 hr hfr he => ?_⟩
  unfold memSpec at he
  split at he
  rotate_left
  · cases he
  rename_i prs hprs
  split at he
  rotate_left
  · cases he
  rename_i hchk
  simp only [Bool.and_eq_true] at hchk
  obtain ⟨hc1, hc2, hone⟩ := hchk
  obtain ⟨cs, fws, he, hfre, _, _⟩ := frees_ok (X := X) (φ := φ) (w := w) he
  split at he
  rotate_left
  · cases he
  rename_i x hx
  obtain ⟨cells, hcells, he⟩ := cellsM_eval he
  obtain ⟨d, rs0, hL, he⟩ := absLM_eval he
  split at he
  rotate_left
  · cases he
  rename_i hd0
  simp only [Bool.and_eq_true] at hd0
  rw [eval_opt] at he
  split at he
  rotate_left
  · cases he
  rename_i y hy
  simp only [RM.eval, Option.some.injEq, Prod.mk.injEq] at he
  obtain ⟨rfl, rfl⟩ := he
  have hps := hfre.post hs0
  have hsat := hps.sat
  have hE := Env.post hst hE0 hps
  have hlen0 := Nat.le_of_ble_eq_true hd0.2
  have hcons := consOk_all hc1
  have hginj := distN_inj hc2
  have hvar := cellsV_some hcells
  have hk64 := allLt_iff st3
  obtain ⟨ρ, nl, φ1, hr1, _, hout, hown1, hrs1, hlab1⟩ := ren_conc (h := fws ++ h) (φ := φ) (ss := flatL (snds vs)) (ss0 := []) (us := []) (d := d) (rs := rs0) (nx := 64) (g := gOf prs) (dd := []) rfl hcells hL rfl st1 (distN_somes hd0.1) hginj (fun l hl => by have := hk64 l hl; omega) (fun l hl => by cases hl)
  simp only [List.length_nil] at hr1 hown1 hrs1 hlab1
  generalize hhp1 : concM (flatL (snds vs)) 0 vs [] d 64 = hp1 at hr1 hown1 hrs1 hlab1
  have hrun1 := hrun x d
  rw [hhp1, hy] at hrun1
  have hkey1 : ∀ k ∈ keys vs, hp1.get k ≠ none := fun k hk => by rw [← hhp1]; exact concM_key hk
  have e1 : Sat (rest X (fws ++ h) φ hp1 φ1) hp1 φ1 w := enter hr1 hsat (fun b hb => hb.1) (fun b hb => hb.2)
  have hk1 : Keeps w (MB X (fws ++ h) φ) w (MB (rest X (fws ++ h) φ hp1 φ1) hp1 φ1) := fun b c t fr hm hb => ⟨hb, by
    rintro (hx | ho)
    · exact hm hx.1
    · exact hm (.inr (hr1.own ho))⟩
  have hcs := hfre.vals hs0 _ (flat_rep hone (datU_rep (ags := ags) hr)) _ _ _ _ (Up.refl _ _ _ _)
  have hdat := encVs_rep hx hone (datU_rep (ags := ags) hr) hcs
  have hdat1 := argsAs_up (h' := hp1) (φ' := φ1) hk1 _ _ (fun p => argsA_nolab p (datK ags) x) hdat
  have hlabk : ∀ k ∈ keys vs, φ1 k = φ (gOf prs k) := fun k hk => by
    obtain ⟨q3, q4⟩ := hout k (by have := hk64 k hk; omega)
    rw [hr1.lab k (hkey1 k hk) q4, q3]
  have hargs := args_of_data (hps.up.keeps.trans hk1) hprs hr hdat1 (fun p hp => by
    obtain ⟨q1, q2⟩ := hcons p hp
    rw [hlabk _ q2, q1])
  unfold runFn at hrun1
  refine calls_of_wp hf hb ?_
  have hl := repVs_len hargs
  have e0 : fn.ntmps - vals.toArray.size = fn.ntmps - (argsM ags x).length := by simp [hl]
  rw [e0]
  let B : Base := ⟨N, G, hst, rest X (fws ++ h) φ hp1 φ1, hp1, φ1, w, (argsM ags x).length + (fn.ntmps - (argsM ags x).length)⟩
  have hA0 : At B (getT (argsM ags x ++ List.replicate (fn.ntmps - (argsM ags x).length) (.tup []))) (Hp.get hp1) { tmps := vals.toArray ++ Array.replicate (fn.ntmps - (argsM ags x).length) undef, defers := [] } w :=
    ⟨hp1, φ1, fun _ => rfl, Post.refl e1, ⟨hE.g, hE.n, fun b ho => hE.o b (hr1.own ho)⟩, getT_args hargs _, by simp [B, hl], rfl⟩
  obtain ⟨e, tm', hp', nx', h1, h2⟩ := run_ok (B := B) hF hmix c 0 _ _ _ _ _ _ hrun1 (by simp [B]) (fun k hk => by
    cases hg : hp1.get k with
    | none => rfl
    | some C =>
      rcases hlab1 k C hg with q | q | q
      · have := hk64 k q.1; omega
      · cases q.1
      · omega) (fun l hl => hl)
  refine h2.wp _ w _ hA0 fun a' w' hA' => ?_
  have fin : (match resV P tm' hp'.get fn.results.toList with
      | some vs => finM rs vsx (resOne vs) hp'
      | none => none) = some y → a'.defers = [] ∧ ∃ v, (results fn a'.tmps).run P w' = .ok v w' ∧ ∃ u φ', Ending.returned v = .returned u ∧ Post X h φ w ((concM (flatL (snds vsx)) 0 (renK (gOf prs) vsx) (somes rs0) y.2 fr ++ fws) ++ h) φ' w' ∧
        repV ((concM (flatL (snds vsx)) 0 (renK (gOf prs) vsx) (somes rs0) y.2 fr ++ fws) ++ h) φ' w' (MB X ((concM (flatL (snds vsx)) 0 (renK (gOf prs) vsx) (somes rs0) y.2 fr ++ fws) ++ h) φ') (resA rs y.1) u := by
    intro hk
    classical
    obtain ⟨h0, φ2, g1, g2, g3, g4, g5, g6⟩ := hA'
    refine ⟨g6, ?_⟩
    split at hk
    rotate_left
    · cases hk
    rename_i vsr hvs
    have hH : hp'.get = h0.get := (funext g1).symm
    rw [hH] at hvs
    obtain ⟨uu, r1, r2⟩ := run_results g2.sat g4 hvs
    unfold finM at hk
    split at hk
    rotate_left
    · cases hk
    rename_i hone2
    split at hk
    rotate_left
    · cases hk
    rename_i cs2 ws2 hev
    split at hk
    rotate_left
    · cases hk
    rename_i y1 hy1
    split at hk
    rotate_left
    · cases hk
    rename_i cells2 hcells2
    split at hk
    rotate_left
    · cases hk
    rename_i d2 rs2 hL2
    split at hk
    rotate_left
    · cases hk
    rename_i hd2
    simp only [Bool.and_eq_true] at hd2
    injection hk with hk
    subst hk
    have hH2 : (ws2 ++ hp' : Hp).get = (ws2 ++ h0 : Hp).get := funext fun l => by rw [get_append, get_append, hH]
    rw [hH] at hev
    rw [hH2] at hcells2 hL2
    obtain ⟨cs2', ws2', ee, hfre2, _, _⟩ := frees_ok (X := rest X (fws ++ h) φ hp1 φ1) (φ := φ2) (w := w') hev
    simp only [RM.eval, Option.some.injEq, Prod.mk.injEq, AV.agg.injEq] at ee
    obtain ⟨rfl, rfl⟩ := ee
    have hps2 := hfre2.post g2.sat
    have hpost : Post (rest X (fws ++ h) φ hp1 φ1) hp1 φ1 w (ws2' ++ h0) φ2 w' := Post.trans g2 hps2
    let g' : Nat → Nat := fun l => if hx : ∃ j, j ∈ keys vs ∧ gOf prs j = l then hx.choose else if hi : ∃ i : Nat, rs0[i]? = some (some l) then 64 + hi.choose else 0
    have hg'k : ∀ j ∈ keys vs, g' (gOf prs j) = j := fun j hj => by
      have hx : ∃ j', j' ∈ keys vs ∧ gOf prs j' = gOf prs j := ⟨j, hj, rfl⟩
      simp only [g']
      rw [dif_pos hx]
      exact hginj _ hx.choose_spec.1 _ hj hx.choose_spec.2
    have harr := absL_arr hL
    have hg'd : ∀ l ∈ somes rs0, ∃ i : Nat, rs0[i]? = some (some l) ∧ g' l = 64 + i := fun l hl => by
      have hl' := mem_somes.1 hl
      obtain ⟨e, xs, hB⟩ := harr l hl'
      have hx : ¬ ∃ j, j ∈ keys vs ∧ gOf prs j = l := by
        rintro ⟨j, hj, rfl⟩
        obtain ⟨us, hv⟩ := hvar j hj
        have hv : (fws ++ h : Hp).get (gOf prs j) = some (.var us) := hv
        rw [hB] at hv
        cases hv
      have hi : ∃ i : Nat, rs0[i]? = some (some l) := List.getElem?_of_mem hl'
      refine ⟨hi.choose, hi.choose_spec, ?_⟩
      simp only [g']
      rw [dif_neg hx, dif_pos hi]
    have hfree : ∀ k, fr ≤ k → k < fr + 64 → (fws ++ h : Hp).get k = none := fun k q1 q2 => by
      rw [get_append]
      cases hw : (fws : Hp).get k with
      | none => exact hfr k q1 q2
      | some C =>
        obtain ⟨e, xs, o, _, q3⟩ := hfre.only k C hw
        rw [hfr k q1 q2] at q3
        cases q3
    have hlen2 := Nat.le_of_ble_eq_true hd2.2
    have hpk : ∀ j ∈ keys vs, (fws ++ h : Hp).get (gOf prs j) ≠ none := fun j hj => by
      obtain ⟨us, hv⟩ := hvar j hj
      have hv : (fws ++ h : Hp).get (gOf prs j) = some (.var us) := hv
      rw [hv]; simp
    have hnr : ∀ l, (fws ++ h : Hp).get l ≠ none → ¬ (fr ≤ l ∧ l < fr + rs2.length) := fun l hl hh => hl (hfree l hh.1 (by omega))
    have hkm : ∀ l, l ∈ keys (renK (gOf prs) vsx) ↔ ∃ j, j ∈ keys vs ∧ gOf prs j = l := fun l => by
      rw [keys_renK, mem_mapN, st4]
    obtain ⟨σ, nl2, ψ, hr2, _, hout2, hown2, hrs2, hlab2⟩ := ren_conc (h := ws2' ++ h0) (φ := φ2) (ss := flatL (snds vsx)) (ss0 := []) (us := []) (cs := cells2) (d := d2) (rs := rs2) (vs := renK (gOf prs) vsx) (nx := fr) (g := g') (dd := somes rs0) (by rw [snds_renK]; rfl)
      (by rw [cellsV_ren (H := (ws2' ++ h0 : Hp).get) (fun k hk => by rw [hg'k k (st4 ▸ hk)])]; exact hcells2) hL2 rfl (by rw [snds_renK]; exact st2) (distN_somes hd2.1)
      (fun l hl l' hl' he => by
        obtain ⟨j, hj, rfl⟩ := (hkm l).1 hl
        obtain ⟨j', hj', rfl⟩ := (hkm l').1 hl'
        rw [hg'k j hj, hg'k j' hj'] at he
        rw [he])
      (fun l hl => by
        obtain ⟨j, hj, rfl⟩ := (hkm l).1 hl
        exact hnr _ (hpk j hj))
      (fun l hl => by
        obtain ⟨i, hi, he⟩ := hg'd l hl
        obtain ⟨e, xs, hB⟩ := harr l (mem_somes.1 hl)
        refine ⟨?_, hnr l (by rw [hB]; simp)⟩
        rw [he]
        cases hq : hp1.get (64 + i) with
        | none => exact absurd hq (hrs1 i l hi).2.2
        | some C =>
          obtain ⟨B', q1, _⟩ := hpost.up.later _ _ hq
          rw [q1]; simp)
    simp only [List.length_nil] at hr2 hown2 hrs2 hlab2
    have hkeyw : ∀ l, (∃ j, j ∈ keys vs ∧ gOf prs j = l) → (concM (flatL (snds vsx)) 0 (renK (gOf prs) vsx) (somes rs0) d2 fr : Hp).get l ≠ none := fun l hl => concM_key ((hkm l).2 hl)
    have hdeadw : ∀ l ∈ somes rs0, (concM (flatL (snds vsx)) 0 (renK (gOf prs) vsx) (somes rs0) d2 fr : Hp).get l ≠ none := fun l hl => concM_dead hl
    simp only
    generalize concM (flatL (snds vsx)) 0 (renK (gOf prs) vsx) (somes rs0) d2 fr = wsM at hr2 hown2 hrs2 hlab2 hkeyw hdeadw ⊢
    have hown : ∀ b, ownB hp1 φ1 b → ownB (fws ++ h) φ b := fun b ho => hr1.own ho
    have hold : ∀ l B, (fws ++ h : Hp).get l = some B → wsM.get l = none → B.mutl = true → ∀ b, φ l = some b → ¬ ownB hp1 φ1 b := fun l B hB hw hm b hb ho => by
      obtain ⟨l', B', q1, q2, q3, q4⟩ := hown1 b ho
      have := hsat.inj l l' B B' b hB q1 hm q2 hb q3
      subst this
      rcases q4 with ⟨k, hk, e⟩ | hm'
      · exact hkeyw l ⟨k, hk, e.symm⟩ hw
      · exact hdeadw l (mem_somes.2 hm') hw
    have hcasew : ∀ l, (fws ++ h : Hp).get l ≠ none → ∀ C, wsM.get l = some C → (∃ j, j ∈ keys vs ∧ gOf prs j = l ∧ ∃ us, C = .var us) ∨ (l ∈ somes rs0 ∧ C = .dead) := fun l hl C hC => by
      rcases hlab2 l C hC with ⟨q1, q2⟩ | q | q
      · obtain ⟨j, hj, e⟩ := (hkm l).1 q1
        exact .inl ⟨j, hj, e, q2⟩
      · exact .inr q
      · exact absurd q (hnr l hl)
    have hlabw : ∀ l, (fws ++ h : Hp).get l ≠ none → wsM.get l ≠ none → ψ l = φ l := fun l hl hw => by
      obtain ⟨q3, q4⟩ := hout2 l (hnr l hl)
      have q5 := hr2.lab l hw q4
      cases hC : wsM.get l with
      | none => exact absurd hC hw
      | some C =>
        rcases hcasew l hl C hC with ⟨j, hj, rfl, _⟩ | ⟨q, _⟩
        · rw [q5, q3, hg'k j hj, hpost.up.lab j (hkey1 j hj), hlabk j hj]
        · obtain ⟨i, hi, he⟩ := hg'd l q
          obtain ⟨p1, p2, p3⟩ := hrs1 i l hi
          rw [q5, q3, he, hpost.up.lab _ p3, hr1.lab _ p3 p2, p1]
    have hleave := leave (ws := wsM) (ψ := ψ) hsat hown hpost hr2 hold hlabw (fun l B C hB hC => by
      rcases hcasew l (by rw [hB]; simp) C hC with ⟨j, hj, _, us, rfl⟩ | ⟨_, rfl⟩
      · cases B <;> simp [Later]
      · cases B <;> simp [Later])
    obtain ⟨hsub, _⟩ := leave_up (w2 := w') (ψ := ψ) hsat hown hold
    have hfin := Post.trans hps hleave
    have hass : ((wsM ++ fws) ++ h : Hp) = (wsM ++ (fws ++ h) : Hp) := List.append_assoc _ _ _
    rw [hass]
    refine ⟨if h : uu.length = 1 then uu[0] else .tuple uu.toArray, ?_, _, _, rfl, hfin, ?_⟩
    · rw [results_eq, Sem.run_bind, Array.mapM_eq_mapM_toList]
      simp only [Sem.run_bind, Sem.run_map, r1, Result.andThen_ok, Sem.run_pure]
      congr 1
    · have hkF : Keeps w' (MB (rest X (fws ++ h) φ hp1 φ1) (ws2' ++ h0) φ2) w' (MB X (wsM ++ (fws ++ h)) (labW wsM ψ φ)) := fun b c t fr hm hb => ⟨hb, fun hM => by
        rcases hsub b hM with q | q
        · exact hm (.inl q)
        · exact hm (.inr (hr2.own q))⟩
      refine res_of (h := h0) (φ := φ2) (w := w') (fun us' hu' => ?_) hy1 hone2 (resOne_rep r2)
      have h3 := hfre2.vals g2.sat _ (flat_rep hone2 hu') _ _ _ _ (Up.refl _ _ _ _)
      exact argsAs_up hkF _ _ (fun p => argsA_nolab p rs y1) (encVs_rep hy1 hone2 hu' h3)
  cases e with
  | normal => simp only at h1; exact fin h1
  | ret => simp only at h1; exact fin h1
  | exit i => cases h1
end
end Go.Proofs.YtdfgfjnpllncdaaGreatDoor.I

namespace Go.Proofs.YtdfgfjnpllncdaaGreatDoor.I
open Go.RowKit
set_option linter.unusedVariables false
section
variable {P : Program} {N : Nat} {G : World → Prop}
theorem pureOk_none {g : FuncId} {ps rs : List Kd} (hn : enters P g = true) : PureOk P N G g ps rs (fun _ => none) := ⟨hn, fun X w x y vals _ _ _ _ e => by cases e⟩
theorem memSpec_none {g : FuncId} {ags : List ArgT} {vs vsx : List (Nat × List ASh)} {rs : List Kd} (hn : enters P g = true) : SpecOk P N G g (memSpec ags vs vsx rs (fun _ _ => none)) := by
  refine ⟨hn, fun X h φ w us vals fr v ws tm hs0 hE0 hr hfr he => ?_⟩
  exfalso
  unfold memSpec at he
  split at he
  rotate_left
  · cases he
  split at he
  rotate_left
  · cases he
  obtain ⟨cs, fws, he, hfre, _, _⟩ := frees_ok (X := X) (φ := φ) (w := w) he
  split at he
  rotate_left
  · cases he
  obtain ⟨cells, hcells, he⟩ := cellsM_eval he
  obtain ⟨d, rs0, hL, he⟩ := absLM_eval he
  split at he
  rotate_left
  · cases he
  rw [eval_opt] at he
  cases he
end
end Go.Proofs.YtdfgfjnpllncdaaGreatDoor.I

namespace Go.Proofs.YtdfgfjnpllncdaaGreatDoor.I
open Go.RowKit
set_option linter.unusedVariables false
def eqPtrs : List Nat → List AV → Bool
  | [], us => match us with
    | [] => true
    | _ => false
  | j :: js, us => match us with
    | .ptr l o :: us => (Nat.beq l j && Nat.beq o 0) && eqPtrs js us
    | _ => false
def isSelf (f : Nat) (js : List Nat) : Blk → Bool
  | .var cs => match cs with
    | [.fn f' caps] => Nat.beq f' f && eqPtrs js caps
    | _ => false
  | _ => false
theorem eqPtrs_eq : ∀ {js : List Nat} {us : List AV}, eqPtrs js us = true → us = ptrs0 js
  | [], us, h => by
    simp only [eqPtrs] at h
    split at h
    · rfl
    · cases h
  | j :: js, us, h => by
    simp only [eqPtrs] at h
    split at h
    · rename_i l o us
      simp only [Bool.and_eq_true] at h
      obtain ⟨⟨h1, h2⟩, h3⟩ := h
      rw [Nat.eq_of_beq_eq_true h1, Nat.eq_of_beq_eq_true h2, eqPtrs_eq h3]
      rfl
    · cases h
theorem isSelf_eq {f : Nat} {js : List Nat} {B : Blk} (h : isSelf f js B = true) : B = .var [.fn f (ptrs0 js)] := by
  unfold isSelf at h
  split at h
  · split at h
    · simp only [Bool.and_eq_true] at h
      rw [Nat.eq_of_beq_eq_true h.1, eqPtrs_eq h.2]
    · cases h
  · cases h
def isNum : Blk → Option Int
  | .var cs => match cs with
    | [.int k c] => match k with
      | .i64 => some c
      | _ => none
    | _ => none
  | _ => none
theorem isNum_eq {B : Blk} {c : Int} (h : isNum B = some c) : B = .var [.int .i64 c] := by
  unfold isNum at h
  split at h
  · split at h
    · split at h
      · injection h with h; rw [h]
      · cases h
    · cases h
  · cases h
def selfH (f : Nat) (a b : Nat) (ks : List Nat) (d : Int × Unit) : Hp := [(a, .var [.int .i64 d.1]), (b, .var [.fn f (ptrs0 ks)])]
/-- The result and the number that the walk found, as data. -/
def finS (f : Nat) (js : List Nat) (rs : List Kd) (v : AV) (hp : Hp) : Option ((kdP rs).T × (Int × Unit)) := match encRes rs hp.get v with
  | some y => match hp.get 0 with
    | some B => match isNum B with
      | some c => match hp.get 1 with
        | some B1 => match isSelf f js B1 with
          | true => some (y, (c, ()))
          | false => none
        | none => none
      | none => none
    | none => none
  | none => none
def selfSpec (f : Nat) (js : List Nat) (ags : List ArgT) (rs : List Kd) (raw : (kdP (datK ags)).T → (Int × Unit) → Option ((kdP rs).T × (Int × Unit))) : Spec := fun us fr => match pairsM ags us with
  | some prs => match consOk prs [0, 1] prs && (distN (mapN (gOf prs) [0, 1]) && (flatV (datU ags us)).all AV.one) with
    | true => frees (flatV (datU ags us)) fun cs fws => match encVs (datK ags) (datU ags us) cs with
      | some x => getW fws (gOf prs 0) fun B => match isNum B with
        | some c => getW fws (gOf prs 1) fun B1 => match isSelf f (mapN (gOf prs) js) B1 with
          | true => .opt (raw x (c, ())) fun y => .ret (resA rs y.1) ((gOf prs 0, .var [.int .i64 y.2.1]) :: fws)
          | false => .fail
        | none => .fail
      | none => .fail
    | false => .fail
  | none => .fail
theorem selfH_get {f a b : Nat} {ks : List Nat} {d : Int × Unit} (hab : a ≠ b) {l : Nat} : (selfH f a b ks d : Hp).get l = if a = l then some (.var [.int .i64 d.1]) else if b = l then some (.var [.fn f (ptrs0 ks)]) else none := by
  unfold selfH
  rw [Hp.get_cons, Hp.get_cons]
  rfl
theorem renAs_ptrs {ρ : Nat → Nat} : ∀ {ks : List Nat}, renAs ρ (ptrs0 ks) = ptrs0 (mapN ρ ks)
  | [] => rfl
  | k :: ks => by simp only [ptrs0, renAs, renA, mapN, renAs_ptrs]
theorem labIns_ptrs {p : Nat → Prop} : ∀ {ks : List Nat}, (∀ k ∈ ks, p k) → labIns p (ptrs0 ks)
  | [], _ => by simp only [ptrs0, labIns]
  | k :: ks, h => by
    simp only [ptrs0, labIns, labIn]
    exact ⟨h k (by simp), labIns_ptrs (fun j hj => h j (by simp [hj]))⟩
theorem mapN_mem {g : Nat → Nat} : ∀ {l : List Nat} {x : Nat}, x ∈ mapN g l → ∃ y ∈ l, g y = x
  | [], x, h => by simp [mapN] at h
  | z :: l, x, h => by
    simp only [mapN, List.mem_cons] at h
    rcases h with rfl | h
    · exact ⟨z, by simp, rfl⟩
    · obtain ⟨y, h1, h2⟩ := mapN_mem h
      exact ⟨y, by simp [h1], h2⟩
theorem self_ren {H : Hp} {Φ : Lab} {f a b a0 b0 : Nat} {ks ks0 : List Nat} {d : Int × Unit} {ρ : Nat → Nat} (hab : a ≠ b) (hab0 : a0 ≠ b0) (h1 : ρ a = a0) (h2 : ρ b = b0) (hA : (H : Hp).get a0 = some (.var [.int .i64 d.1])) (hB : (H : Hp).get b0 = some (.var [.fn f (ptrs0 ks0)]))
    (hks : mapN ρ ks = ks0) (hin : ∀ k ∈ ks, k = a ∨ k = b) : Ren H Φ (selfH f a b ks d) (fun l => if l = a ∨ l = b then Φ (ρ l) else none) ρ (fun _ => False) := by
  have hg := fun l => selfH_get (f := f) (ks := ks) (d := d) hab (l := l)
  have hne : ∀ l, (selfH f a b ks d : Hp).get l ≠ none → l = a ∨ l = b := fun l hl => by
    rw [hg] at hl
    by_cases c1 : a = l
    · exact .inl c1.symm
    · rw [if_neg c1] at hl
      by_cases c2 : b = l
      · exact .inr c2.symm
      · rw [if_neg c2] at hl; exact absurd rfl hl
  have hsome : ∀ l, l = a ∨ l = b → (selfH f a b ks d : Hp).get l ≠ none := fun l hl => by
    rw [hg]
    by_cases c1 : a = l
    · rw [if_pos c1]; simp
    · rw [if_neg c1]
      by_cases c2 : b = l
      · rw [if_pos c2]; simp
      · rcases hl with q | q
        · exact absurd q.symm c1
        · exact absurd q.symm c2
  refine ⟨fun l hl _ => by simp only [if_pos (hne l hl)], fun l hn => hn.elim, fun l hl => ?_, fun l B hl _ => ?_, fun l l' B B' g1 g2 _ _ _ _ he => ?_⟩
  · by_cases c : l = a ∨ l = b
    · exact absurd hl (hsome l c)
    · simp only [if_neg c]
  · rw [hg] at hl
    by_cases c1 : a = l
    · rw [if_pos c1] at hl
      injection hl with hl
      subst hl c1
      refine ⟨_, by rw [h1]; exact hA, [.int .i64 d.1], rfl, _, _, rfl, .inl ⟨by simp only [renA], by simp only [labIn]⟩, rfl⟩
    · rw [if_neg c1] at hl
      by_cases c2 : b = l
      · rw [if_pos c2] at hl
        injection hl with hl
        subst hl c2
        refine ⟨_, by rw [h2]; exact hB, [.fn f (ptrs0 ks0)], rfl, _, _, rfl, .inl ⟨by simp only [renA, renAs_ptrs, hks], ?_⟩, rfl⟩
        simp only [labIn]
        exact labIns_ptrs (fun k hk => ⟨hsome k (hin k hk), fun h => h⟩)
      · rw [if_neg c2] at hl
        cases hl
  · have q1 := hne l (by rw [g1]; simp)
    have q2 := hne l' (by rw [g2]; simp)
    rcases q1 with rfl | rfl <;> rcases q2 with rfl | rfl
    · rfl
    · rw [h1, h2] at he; exact absurd he hab0
    · rw [h1, h2] at he; exact absurd he.symm hab0
    · rfl
section
variable {X : Nat → Prop} {a b h : Hp} {φ φ0 : Lab} {w w0 : World}
theorem mb_congr (e : ∀ l, a.get l = b.get l) : MB X a φ = MB X b φ := by
  funext c
  simp only [MB, ownB, e]
theorem up_congr (e : ∀ l, a.get l = b.get l) : Up a φ w (MB X a φ) b φ w (MB X b φ) :=
  ⟨fun l hl => rfl, fun l B hB => ⟨B, by rw [← e]; exact hB, Later.refl B⟩, by rw [mb_congr e]; exact Keeps.refl _ _, fun b c t fr hb => ⟨c, t, fr, hb, rfl⟩⟩
theorem sat_congr (e : ∀ l, a.get l = b.get l) (hs : Sat X a φ w) : Sat X b φ w :=
  ⟨fun l B hB => (up_congr e).blk hs.non (by rw [e]; exact hB) (fun _ _ => rfl) (hs.blk l B (by rw [e]; exact hB)),
    fun l l' B B' c h1 h2 => hs.inj l l' B B' c (by rw [e]; exact h1) (by rw [e]; exact h2),
    fun l B c h1 => hs.out l B c (by rw [e]; exact h1),
    fun l k xs c h1 hb => by rw [← mb_congr e]; exact hs.frz l k xs c (by rw [e]; exact h1) hb,
    fun l hl => hs.non l (by rw [e]; exact hl), hs.xlt⟩
theorem post_congr (e : ∀ l, a.get l = b.get l) (hp : Post X h φ0 w0 a φ w) : Post X h φ0 w0 b φ w :=
  ⟨sat_congr e hp.sat, Up.trans hp.up (up_congr e), hp.chg, fun c hc => hp.grow c (by
    obtain ⟨l, B, h1, h2, h3⟩ := hc
    exact ⟨l, B, by rw [e]; exact h1, h2, h3⟩)⟩
end
section
variable {P : Program} {N : Nat} {G : World → Prop} {F : Specs} {hs : Nat → Option Hint}
theorem selfSpec_none {g : FuncId} {f : Nat} {js : List Nat} {ags : List ArgT} {rs : List Kd} (hn : enters P g = true) : SpecOk P N G g (selfSpec f js ags rs (fun _ _ => none)) := by
  refine ⟨hn, fun X h φ w us vals fr v ws tm hs0 hE0 hr hfr he => ?_⟩
  exfalso
  unfold selfSpec at he
  split at he
  rotate_left
  · cases he
  split at he
  rotate_left
  · cases he
  obtain ⟨cs, fws, he, hfre, _, _⟩ := frees_ok (X := X) (φ := φ) (w := w) he
  split at he
  rotate_left
  · cases he
  obtain ⟨B, hB, he⟩ := getW_eval he
  split at he
  rotate_left
  · cases he
  obtain ⟨B1, hB1, he⟩ := getW_eval he
  split at he
  rotate_left
  · cases he
  rw [eval_opt] at he
  cases he
theorem selfSpec_ok (hst : Stays N G) (hF : ∀ g S, F g = some S → SpecOk P N G g S) (hmix : P.follows .mixedOrders = true) {g : FuncId} {fn : Func} {c : Code} {f : Nat} {js : List Nat} {ags : List ArgT} {rs : List Kd} {raw : (kdP (datK ags)).T → (Int × Unit) → Option ((kdP rs).T × (Int × Unit))}
    (hf : P.funcs[g]? = some fn) (hb : fn.body = some c) (hname : enters P g = true) (hjs : allLt 2 js = true)
    (hrun : ∀ x d, runFn P F hs fn c ((kdP rs).T × (Int × Unit)) (argsM ags x) (selfH f 0 1 js d) 128 (finS f js rs) = raw x d) : SpecOk P N G g (selfSpec f js ags rs raw) := by
  refine ⟨hname, fun X h φ w us vals fr v ws tm hs0 hE0 hr hfr he => ?_⟩
  unfold selfSpec at he
  split at he
  rotate_left
  · cases he
  rename_i prs hprs
  split at he
  rotate_left
  · cases he
  rename_i hchk
  simp only [Bool.and_eq_true] at hchk
  obtain ⟨hc1, hc2, hone⟩ := hchk
  obtain ⟨cs, fws, he, hfre, _, _⟩ := frees_ok (X := X) (φ := φ) (w := w) he
  split at he
  rotate_left
  · cases he
  rename_i x hx
  obtain ⟨B0, hB0, he⟩ := getW_eval he
  split at he
  rotate_left
  · cases he
  rename_i c0 hc0
  obtain ⟨B1, hB1, he⟩ := getW_eval he
  split at he
  rotate_left
  · cases he
  rename_i hself
  rw [eval_opt] at he
  split at he
  rotate_left
  · cases he
  rename_i y hy
  simp only [RM.eval, Option.some.injEq, Prod.mk.injEq] at he
  obtain ⟨rfl, rfl⟩ := he
  have e0 := isNum_eq hc0
  have e1 := isSelf_eq hself
  subst e0 e1
  have hps := hfre.post hs0
  have hsat := hps.sat
  have hE := Env.post hst hE0 hps
  have hcons := consOk_all hc1
  have hginj := distN_inj hc2
  have hlt2 := allLt_iff hjs
  have hg01 : gOf prs 0 ≠ gOf prs 1 := fun h => by have := hginj 0 (by simp) 1 (by simp) h; omega
  have h01 : (0 : Nat) ≠ 1 := by omega
  have hjs01 : ∀ k ∈ js, k = 0 ∨ k = 1 := fun k hk => by have := hlt2 k hk; omega
  have hr1 := self_ren (H := fws ++ h) (Φ := φ) (f := f) (d := (c0, ())) (ρ := gOf prs) (ks := js) h01 hg01 rfl rfl hB0 hB1 rfl hjs01
  have hrun1 := hrun x (c0, ())
  rw [hy] at hrun1
  have hg1 := fun l => selfH_get (f := f) (ks := js) (d := (c0, ())) h01 (l := l)
  generalize hhp1 : selfH f 0 1 js (c0, ()) = hp1 at hr1 hrun1 hg1
  generalize hphi1 : (fun l => if l = 0 ∨ l = 1 then φ (gOf prs l) else none : Lab) = φ1 at hr1
  have hlab0 : φ1 0 = φ (gOf prs 0) := by rw [← hphi1]; rfl
  have hlab1 : φ1 1 = φ (gOf prs 1) := by rw [← hphi1]; rfl
  have hk0 : hp1.get 0 = some (.var [.int .i64 c0]) := by rw [hg1]; rfl
  have hk1 : hp1.get 1 = some (.var [.fn f (ptrs0 js)]) := by rw [hg1]; rfl
  have hk2 : ∀ l B, hp1.get l = some B → l = 0 ∨ l = 1 := fun l B hl => by
    rw [hg1] at hl
    by_cases c1 : 0 = l
    · exact .inl c1.symm
    · rw [if_neg c1] at hl
      by_cases c2 : 1 = l
      · exact .inr c2.symm
      · rw [if_neg c2] at hl; cases hl
  have hsub1 : Sat (rest X (fws ++ h) φ hp1 φ1) hp1 φ1 w := enter hr1 hsat (fun b hb => hb.1) (fun b hb => hb.2)
  have hkp : Keeps w (MB X (fws ++ h) φ) w (MB (rest X (fws ++ h) φ hp1 φ1) hp1 φ1) := fun b c t fr hm hb => ⟨hb, by
    rintro (hx | ho)
    · exact hm hx.1
    · exact hm (.inr (hr1.own ho))⟩
  have hcs := hfre.vals hs0 _ (flat_rep hone (datU_rep (ags := ags) hr)) _ _ _ _ (Up.refl _ _ _ _)
  have hdat := encVs_rep hx hone (datU_rep (ags := ags) hr) hcs
  have hdat1 := argsAs_up (h' := hp1) (φ' := φ1) hkp _ _ (fun p => argsA_nolab p (datK ags) x) hdat
  have hargs := args_of_data (hps.up.keeps.trans hkp) hprs hr hdat1 (fun p hp => by
    obtain ⟨q1, q2⟩ := hcons p hp
    have q3 : p.1 = 0 ∨ p.1 = 1 := by simpa using q2
    rcases q3 with q3 | q3
    · rw [q3, hlab0, ← q1, q3]
    · rw [q3, hlab1, ← q1, q3])
  unfold runFn at hrun1
  refine calls_of_wp hf hb ?_
  have hl := repVs_len hargs
  have e0 : fn.ntmps - vals.toArray.size = fn.ntmps - (argsM ags x).length := by simp [hl]
  rw [e0]
  let B : Base := ⟨N, G, hst, rest X (fws ++ h) φ hp1 φ1, hp1, φ1, w, (argsM ags x).length + (fn.ntmps - (argsM ags x).length)⟩
  have hA0 : At B (getT (argsM ags x ++ List.replicate (fn.ntmps - (argsM ags x).length) (.tup []))) (Hp.get hp1) { tmps := vals.toArray ++ Array.replicate (fn.ntmps - (argsM ags x).length) undef, defers := [] } w :=
    ⟨hp1, φ1, fun _ => rfl, Post.refl hsub1, ⟨hE.g, hE.n, fun b ho => hE.o b (hr1.own ho)⟩, getT_args hargs _, by simp [B, hl], rfl⟩
  obtain ⟨e, tm', hp', nx', h1, h2⟩ := run_ok (B := B) hF hmix c 0 _ _ _ _ _ _ hrun1 (by simp [B]) (fun k hk => by
    cases hg : hp1.get k with
    | none => rfl
    | some C => have := hk2 k C hg; omega) (fun l hl => hl)
  refine h2.wp _ w _ hA0 fun a' w' hA' => ?_
  have fin : (match resV P tm' hp'.get fn.results.toList with
      | some vs => finS f js rs (resOne vs) hp'
      | none => none) = some y → a'.defers = [] ∧ ∃ v, (results fn a'.tmps).run P w' = .ok v w' ∧ ∃ u φ', Ending.returned v = .returned u ∧ Post X h φ w (((gOf prs 0, .var [.int .i64 y.2.1]) :: fws) ++ h) φ' w' ∧
        repV (((gOf prs 0, .var [.int .i64 y.2.1]) :: fws) ++ h) φ' w' (MB X (((gOf prs 0, .var [.int .i64 y.2.1]) :: fws) ++ h) φ') (resA rs y.1) u := by
    intro hk
    classical
    obtain ⟨h0, φ2, g1, g2, g3, g4, g5, g6⟩ := hA'
    refine ⟨g6, ?_⟩
    split at hk
    rotate_left
    · cases hk
    rename_i vsr hvs
    have hH : hp'.get = h0.get := (funext g1).symm
    rw [hH] at hvs
    obtain ⟨uu, r1, r2⟩ := run_results g2.sat g4 hvs
    unfold finS at hk
    rw [hH] at hk
    split at hk
    rotate_left
    · cases hk
    rename_i y1 hy1
    split at hk
    rotate_left
    · cases hk
    rename_i C0 hC0
    split at hk
    rotate_left
    · cases hk
    rename_i c1 hc1'
    split at hk
    rotate_left
    · cases hk
    rename_i C1 hC1
    split at hk
    rotate_left
    · cases hk
    rename_i hself1
    injection hk with hk
    subst hk
    have d0 := isNum_eq hc1'
    have d1 := isSelf_eq hself1
    subst d0 d1
    unfold encRes at hy1
    split at hy1
    rotate_left
    · cases hy1
    rename_i hone2
    split at hy1
    rotate_left
    · cases hy1
    rename_i cs2 ws2 hev
    obtain ⟨cs2', ws2', ee, hfre2, _, _⟩ := frees_ok (X := rest X (fws ++ h) φ hp1 φ1) (φ := φ2) (w := w') hev
    simp only [RM.eval, Option.some.injEq, Prod.mk.injEq, AV.agg.injEq] at ee
    obtain ⟨rfl, rfl⟩ := ee
    have hps2 := hfre2.post g2.sat
    have hpost : Post (rest X (fws ++ h) φ hp1 φ1) hp1 φ1 w (ws2' ++ h0) φ2 w' := Post.trans g2 hps2
    let σ : Nat → Nat := fun l => if l = gOf prs 0 then 0 else if l = gOf prs 1 then 1 else l
    have hσ0 : σ (gOf prs 0) = 0 := by
      show (if gOf prs 0 = gOf prs 0 then 0 else if gOf prs 0 = gOf prs 1 then 1 else gOf prs 0) = 0
      rw [if_pos rfl]
    have hσ1 : σ (gOf prs 1) = 1 := by
      show (if gOf prs 1 = gOf prs 0 then 0 else if gOf prs 1 = gOf prs 1 then 1 else gOf prs 1) = 1
      rw [if_neg (fun h => hg01 h.symm), if_pos rfl]
    have hgetF : ∀ l us, h0.get l = some (.var us) → (ws2' ++ h0 : Hp).get l = some (.var us) := fun l us hl => by
      rw [get_append]
      cases hw : (ws2' : Hp).get l with
      | none => exact hl
      | some C =>
        obtain ⟨e, xs, o, _, q3⟩ := hfre2.only l C hw
        rw [hl] at q3
        cases q3
    have hmap : ∀ {l : List Nat}, (∀ k ∈ l, k = 0 ∨ k = 1) → mapN σ (mapN (gOf prs) l) = l := by
      intro l
      induction l with
      | nil => intro _; rfl
      | cons k l ih =>
        intro hl
        simp only [mapN]
        rw [ih (fun j hj => hl j (by simp [hj]))]
        rcases hl k (by simp) with rfl | rfl
        · rw [hσ0]
        · rw [hσ1]
    have hr2 := self_ren (H := ws2' ++ h0) (Φ := φ2) (f := f) (d := (c1, ())) (ρ := σ) (ks := mapN (gOf prs) js) hg01 h01 hσ0 hσ1 (hgetF 0 _ hC0) (hgetF 1 _ hC1) (hmap hjs01) (fun k hk => by
      obtain ⟨j, q1, q2⟩ := mapN_mem hk
      rcases hjs01 j q1 with rfl | rfl
      · exact .inl q2.symm
      · exact .inr q2.symm)
    have hw2 := fun l => selfH_get (f := f) (ks := mapN (gOf prs) js) (d := (c1, ())) hg01 (l := l)
    generalize hwsM : selfH f (gOf prs 0) (gOf prs 1) (mapN (gOf prs) js) (c1, ()) = wsM at hr2 hw2 ⊢
    generalize hpsi : (fun l => if l = gOf prs 0 ∨ l = gOf prs 1 then φ2 (σ l) else none : Lab) = ψ at hr2
    have hψ0 : ψ (gOf prs 0) = φ (gOf prs 0) := by
      rw [← hpsi]
      simp only [true_or, if_true]
      rw [hσ0, hpost.up.lab 0 (by rw [hk0]; simp), hlab0]
    have hψ1 : ψ (gOf prs 1) = φ (gOf prs 1) := by
      rw [← hpsi]
      simp only [or_true, if_true]
      rw [hσ1, hpost.up.lab 1 (by rw [hk1]; simp), hlab1]
    have hcasew : ∀ l C, wsM.get l = some C → (l = gOf prs 0 ∨ l = gOf prs 1) ∧ ∃ us, C = .var us := fun l C hC => by
      rw [hw2] at hC
      by_cases c1 : gOf prs 0 = l
      · rw [if_pos c1] at hC
        injection hC with hC
        exact ⟨.inl c1.symm, _, hC.symm⟩
      · rw [if_neg c1] at hC
        by_cases c2 : gOf prs 1 = l
        · rw [if_pos c2] at hC
          injection hC with hC
          exact ⟨.inr c2.symm, _, hC.symm⟩
        · rw [if_neg c2] at hC; cases hC
    have hown : ∀ b, ownB hp1 φ1 b → ownB (fws ++ h) φ b := fun b ho => hr1.own ho
    have hold : ∀ l B, (fws ++ h : Hp).get l = some B → wsM.get l = none → B.mutl = true → ∀ b, φ l = some b → ¬ ownB hp1 φ1 b := fun l B hB hw hm b hb ho => by
      obtain ⟨l', B', q1, q2, q3⟩ := ho
      rcases hk2 l' B' q1 with rfl | rfl
      · rw [hlab0] at q3
        have := hsat.inj l (gOf prs 0) B _ b hB hB0 hm rfl hb q3
        subst this
        rw [hw2, if_pos rfl] at hw
        cases hw
      · rw [hlab1] at q3
        have := hsat.inj l (gOf prs 1) B _ b hB hB1 hm rfl hb q3
        subst this
        rw [hw2, if_neg hg01, if_pos rfl] at hw
        cases hw
    have hlabw : ∀ l, (fws ++ h : Hp).get l ≠ none → wsM.get l ≠ none → ψ l = φ l := fun l hl hw => by
      cases hC : wsM.get l with
      | none => exact absurd hC hw
      | some C =>
        rcases (hcasew l C hC).1 with rfl | rfl
        · exact hψ0
        · exact hψ1
    have hleave := leave (ws := wsM) (ψ := ψ) hsat hown hpost hr2 hold hlabw (fun l B C hB hC => by
      obtain ⟨q, us, rfl⟩ := hcasew l C hC
      rcases q with rfl | rfl
      · rw [hB0] at hB
        injection hB with hB
        subst hB
        simp [Later]
      · rw [hB1] at hB
        injection hB with hB
        subst hB
        simp [Later])
    obtain ⟨hsub, _⟩ := leave_up (w2 := w') (ψ := ψ) hsat hown hold
    have hfin := Post.trans hps hleave
    have hcg : ∀ l, (wsM ++ (fws ++ h) : Hp).get l = Hp.get (((gOf prs 0, .var [.int .i64 c1]) :: fws) ++ h) l := fun l => by
      show _ = Hp.get ((gOf prs 0, Blk.var [.int .i64 c1]) :: (fws ++ h)) l
      rw [get_append, hw2, Hp.get_cons]
      by_cases c1 : gOf prs 0 = l
      · rw [if_pos c1, if_pos c1]
      · rw [if_neg c1, if_neg c1]
        by_cases c2 : gOf prs 1 = l
        · rw [if_pos c2, ← c2, hB1]
        · rw [if_neg c2]
    refine ⟨if h : uu.length = 1 then uu[0] else .tuple uu.toArray, ?_, _, _, rfl, post_congr hcg hfin, ?_⟩
    · rw [results_eq, Sem.run_bind, Array.mapM_eq_mapM_toList]
      simp only [Sem.run_bind, Sem.run_map, r1, Result.andThen_ok, Sem.run_pure]
      congr 1
    · refine (up_congr (X := X) hcg).repV hfin.sat.non ?_
      have hkF : Keeps w' (MB (rest X (fws ++ h) φ hp1 φ1) (ws2' ++ h0) φ2) w' (MB X (wsM ++ (fws ++ h)) (labW wsM ψ φ)) := fun b c t fr hm hb => ⟨hb, fun hM => by
        rcases hsub b hM with q | q
        · exact hm (.inl q)
        · exact hm (.inr (hr2.own q))⟩
      refine res_of (h := h0) (φ := φ2) (w := w') (fun us' hu' => ?_) hy1 hone2 (resOne_rep r2)
      have h3 := hfre2.vals g2.sat _ (flat_rep hone2 hu') _ _ _ _ (Up.refl _ _ _ _)
      exact argsAs_up hkF _ _ (fun p => argsA_nolab p rs y1) (encVs_rep hy1 hone2 hu' h3)
  cases e with
  | normal => simp only at h1; exact fin h1
  | ret => simp only at h1; exact fin h1
  | exit i => cases h1
end
end Go.Proofs.YtdfgfjnpllncdaaGreatDoor.I

namespace Go.Proofs.YtdfgfjnpllncdaaGreatDoor.I
open Go.RowKit
set_option linter.unusedVariables false
/-- A block that came up somewhere behind, under a new label. -/
theorem post_newAt {X : Nat → Prop} {h : Hp} {φ : Lab} {w w' : World} (hs : Sat X h φ w) {f : Nat} (hf : h.get f = none) {O : Obj} {n : Nat} (hn : w.heap.size ≤ n)
    (hw : w'.os = w.os ∧ w'.tape = w.tape ∧ w'.output = w.output) (hat : w'.heap[n]? = some O) (hold : ∀ b, b < w.heap.size → w'.heap[b]? = w.heap[b]?) (hsize : w.heap.size ≤ w'.heap.size) {B : Blk} (hm : B.mutl = true)
    (hB : ∀ h' φ' M', Up h φ w (MB X h φ) h' φ' w' M' → φ' f = some n → w'.heap[n]? = some O → blkRep h' φ' w' M' f B) :
    Post X h φ w ((f, B) :: h) (φ.set f n) w' := by
  have hlt : ∀ l B b, h.get l = some B → B.mutl = true → φ l = some b → b < w.heap.size := fun l B b h1 h2 h3 => own_lt hs ⟨l, B, h1, h2, h3⟩
  refine post_of hs (fun l hl => Lab.set_ne (fun e => hl (e ▸ hf))) (fun l B' hl => ⟨B', ?_, Later.refl _⟩) ⟨hw.1, hw.2.1, hw.2.2, hsize, fun b hb _ => hold b hb, fun b c t fr hb => ⟨c, t, fr, by rw [hold b (heap_lt hb)]; exact hb, rfl⟩⟩ ?_ ?_ ?_ ?_ ?_
  · rw [Hp.get_cons, if_neg (fun e => by subst e; rw [hf] at hl; cases hl)]; exact hl
  · rintro b ⟨l, B', h1, h2, h3⟩
    rw [Hp.get_cons] at h1
    by_cases e : f = l
    · subst e; rw [Lab.set_eq] at h3; injection h3 with h3; exact .inr (by omega)
    · rw [if_neg e] at h1; rw [Lab.set_ne (Ne.symm e)] at h3; exact .inl ⟨l, B', h1, h2, h3⟩
  · intro hu l B' hl
    rw [Hp.get_cons] at hl
    by_cases e : f = l
    · subst e; rw [if_pos rfl] at hl; injection hl with hl; subst hl
      exact .inr (hB _ _ _ hu (Lab.set_eq _ _ _) hat)
    · rw [if_neg e] at hl
      rcases blk_lt hs hl with rfl | hbl
      · exact .inr trivial
      · exact .inl ⟨hl, fun b hb => hold b (hbl b hb)⟩
  · intro l l' B1 B2 b h1 h2 m1 m2 e1 e2
    rw [Hp.get_cons] at h1 h2
    by_cases p : f = l <;> by_cases q : f = l'
    · exact p.symm.trans q
    · subst p; rw [if_neg q] at h2; rw [Lab.set_ne (Ne.symm q)] at e2; rw [Lab.set_eq] at e1; injection e1 with e1
      have := hlt _ _ _ h2 m2 e2; omega
    · subst q; rw [if_neg p] at h1; rw [Lab.set_ne (Ne.symm p)] at e1; rw [Lab.set_eq] at e2; injection e2 with e2
      have := hlt _ _ _ h1 m1 e1; omega
    · rw [if_neg p] at h1; rw [if_neg q] at h2; rw [Lab.set_ne (Ne.symm p)] at e1; rw [Lab.set_ne (Ne.symm q)] at e2
      exact hs.inj _ _ _ _ _ h1 h2 m1 m2 e1 e2
  · intro l e xs b hl hb
    rw [Hp.get_cons] at hl
    by_cases p : f = l
    · rw [if_pos p] at hl; injection hl with hl; subst hl; cases hm
    · rw [if_neg p] at hl; exact .inl hl
  · intro l hl
    rw [Hp.get_cons] at hl
    by_cases p : f = l
    · rw [if_pos p] at hl; cases hl
    · rw [if_neg p] at hl; rw [Lab.set_ne (Ne.symm p)]; exact hs.non l hl
/-- A new map of these entries. -/
def mapSpec (es : List (Value × Value)) : Spec := fun us fr => match us with
  | [] => .ret (.mapr fr) [(fr, .mp es)]
  | _ => .fail
/-- The entries of the map that the walk comes to. -/
def mapRes (v : AV) (H : Nat → Option Blk) : Option (List (Value × Value)) := match v with
  | .mapr l => match H l with
    | some (.mp es) => some es
    | _ => none
  | _ => none
section
variable {P : Program} {N : Nat} {G : World → Prop} {F : Specs} {hs : Nat → Option Hint}
theorem mapSpec_ok (hst : Stays N G) (hF : ∀ g S, F g = some S → SpecOk P N G g S) (hmix : P.follows .mixedOrders = true) {g : FuncId} {fn : Func} {c : Code} {es : List (Value × Value)} (hf : P.funcs[g]? = some fn) (hb : fn.body = some c) (hname : enters P g = true)
    (h : runFn P F hs fn c (List (Value × Value)) [] [] 0 (fun v hp => mapRes v hp.get) = some es) : SpecOk P N G g (mapSpec es) := by
  refine ⟨hname, fun X h0 φ0 w us vals fr v ws tm hs0 hE0 hr hfr he => ?_⟩
  unfold mapSpec at he
  split at he
  rotate_left
  · cases he
  simp only [RM.eval, Option.some.injEq, Prod.mk.injEq] at he
  obtain ⟨rfl, rfl⟩ := he
  simp only [repVs] at hr
  subst hr
  unfold runFn at h
  refine calls_of_wp hf hb ?_
  have hX : ∀ b, MB X h0 φ0 b → b < w.heap.size := fun b hb => by
    rcases hb with hb | hb
    · exact hs0.xlt b hb
    · exact own_lt hs0 hb
  have e0 : fn.ntmps - (List.toArray ([] : List Value)).size = fn.ntmps - ([] : List AV).length := by simp
  rw [e0]
  let B : Base := base0 hst (MB X h0 φ0) w (([] : List AV).length + (fn.ntmps - ([] : List AV).length))
  have hA0 : At B (getT (([] : List AV) ++ List.replicate (fn.ntmps - ([] : List AV).length) (.tup []))) (Hp.get []) { tmps := (List.toArray ([] : List Value)) ++ Array.replicate (fn.ntmps - ([] : List AV).length) undef, defers := [] } w := by
    refine ⟨[], fun _ => none, fun _ => rfl, Post.refl (sat0 hX), ⟨hE0.g, hE0.n, fun b ⟨l, C, h1, _⟩ => (by cases h1)⟩, ?_, by simp [B, base0], rfl⟩
    have hm : MB (MB X h0 φ0) [] (fun _ => none) = MB X h0 φ0 := by
      funext b
      simp only [MB, ownB, eq_iff_iff]
      exact ⟨fun h => h.resolve_right (fun ⟨l, C, h1, _⟩ => (by cases h1)), .inl⟩
    show Tm [] (fun _ => none) w (MB (MB X h0 φ0) [] (fun _ => none)) _ _
    rw [hm]
    exact getT_args (by simp only [repVs]) _
  obtain ⟨e, tm', hp', nx', h1, h2⟩ := run_ok (B := B) hF hmix c 0 _ _ _ _ _ _ h (by simp [B, base0]) (fun _ _ => rfl) (fun l hl => absurd rfl hl)
  refine h2.wp _ w _ hA0 fun a' w' hA' => ?_
  have fin : (match resV P tm' hp'.get fn.results.toList with
      | some vs => mapRes (resOne vs) hp'.get
      | none => none) = some es → a'.defers = [] ∧ ∃ v, (results fn a'.tmps).run P w' = .ok v w' ∧ ∃ u φ', Ending.returned v = .returned u ∧ Post X h0 φ0 w ([(fr, .mp es)] ++ h0) φ' w' ∧ repV ([(fr, .mp es)] ++ h0) φ' w' (MB X ([(fr, .mp es)] ++ h0) φ') (.mapr fr) u := by
    intro hk
    obtain ⟨h1, φ, g1, g2, g3, g4, g5, g6⟩ := hA'
    refine ⟨g6, ?_⟩
    split at hk
    · rename_i vs hvs
      have hH : hp'.get = h1.get := (funext g1).symm
      rw [hH] at hvs hk
      unfold mapRes at hk
      obtain ⟨us, r1, r2⟩ := run_results g2.sat g4 hvs
      suffices hm : ∃ φ', Post X h0 φ0 w ([(fr, .mp es)] ++ h0) φ' w' ∧ repV ([(fr, .mp es)] ++ h0) φ' w' (MB X ([(fr, .mp es)] ++ h0) φ') (.mapr fr) (if h : us.length = 1 then us[0] else .tuple us.toArray) by
        obtain ⟨φ', m1, m2⟩ := hm
        refine ⟨if h : us.length = 1 then us[0] else .tuple us.toArray, ?_, _, φ', rfl, m1, m2⟩
        rw [results_eq, Sem.run_bind, Array.mapM_eq_mapM_toList]
        simp only [Sem.run_bind, Sem.run_map, r1, Result.andThen_ok, Sem.run_pure]
        congr 1
      · have hr1 := resOne_rep r2
        generalize (if h : us.length = 1 then us[0] else Value.tuple us.toArray) = u at hr1
        generalize resOne vs = v at hr1 hk
        split at hk
        · rename_i l
          split at hk
          · rename_i es' hes
            injection hk with hk
            subst hk
            simp only [repV] at hr1
            obtain ⟨b, hb1, rfl⟩ := hr1
            obtain ⟨b', c, k, q1, q2, q3⟩ := g2.sat.blk _ _ hes
            rw [hb1] at q1
            injection q1 with q1
            subst q1
            have hge : w.heap.size ≤ b := by
              rcases g2.grow b ⟨l, _, hes, rfl, hb1⟩ with ⟨l', C, z, _⟩ | z
              · cases z
              · exact z
            refine ⟨φ0.set fr b, post_newAt hs0 (hfr fr (Nat.le_refl _) (by omega)) hge ⟨g2.chg.os, g2.chg.tape, g2.chg.output⟩ q2 (fun i hi => g2.chg.same i hi (fun ⟨l', C, z, _⟩ => by cases z)) g2.chg.size rfl (fun h' φ' M' hu hl hat => ⟨b, c, k, hl, hat, q3⟩), ?_⟩
            simp only [repV]
            exact ⟨b, Lab.set_eq _ _ _, rfl⟩
          · cases hk
        · cases hk
    · cases hk
  cases e with
  | normal => simp only at h1; exact fin h1
  | ret => simp only at h1; exact fin h1
  | exit i => cases h1
end
end Go.Proofs.YtdfgfjnpllncdaaGreatDoor.I

namespace Go.Proofs.YtdfgfjnpllncdaaGreatDoor.I
open Go.RowKit
set_option linter.unusedVariables false
@[reducible] def owns : List Kd → List ASh
  | [] => []
  | e :: r => .own e :: owns r
/-- The rows that the walk found. -/
def finR (os : List Kd) (v : AV) (hp : Hp) : Option (kdL (owns os)).T := match absL (owns os) hp.get (resL os v) with
  | some (d, rs) => match distN (somes rs) && Nat.ble rs.length 64 with
    | true => some d
    | false => none
  | none => none
/-- Plain data, then rows; the rows are the callee's from now on. -/
def rowSpec (ps es os : List Kd) (raw : (kdP ps).T → (kdL (owns es)).T → Option (kdL (owns os)).T) : Spec := fun us fr => match (flatV (us.take ps.length)).all AV.one with
  | true => frees (flatV (us.take ps.length)) fun cs fws => match encVs ps (us.take ps.length) cs with
    | some x => absLM fws (owns es) (us.drop ps.length) fun d rs0 => match distN (somes rs0) && Nat.ble rs0.length 64 with
      | true => .opt (raw x d) fun y => .ret (resOne (concL (owns os) y fr)) (concHL (owns os) y fr ++ (deads (somes rs0) ++ fws))
      | false => .fail
    | none => .fail
  | false => .fail
theorem concM_rows {ss : List ASh} {n : Nat} {dd : List Nat} {d : (kdL ss).T} {nx : Nat} : concM ss n [] dd d nx = concHL ss d nx ++ deads dd := rfl
theorem absL_len {H : Nat → Option Blk} : ∀ {ss : List ASh} {vs : List AV} {r : (kdL ss).T × List (Option Nat)}, absL ss H vs = some r → vs.length = ss.length
  | [], vs, r, h => by
    simp only [absL] at h
    split at h
    · rfl
    · cases h
  | s :: ss, vs, r, h => by
    simp only [absL] at h
    split at h
    · rename_i v vs
      split at h
      · split at h
        · rename_i hx
          simp only [List.length_cons, absL_len hx]
        · cases h
      · cases h
    · cases h
theorem concL_len : ∀ {ss : List ASh} {d : (kdL ss).T} {c : Nat}, (concL ss d c).length = ss.length
  | [], _, _ => rfl
  | s :: ss, d, c => by simp only [concL, List.length_cons, concL_len]
theorem Ren.relsA {h : Hp} {φ : Lab} {h' : Hp} {φ' : Lab} {ρ : Nat → Nat} {nl : Nat → Prop} {w : World} {M M' : Nat → Prop} (hr : Ren h φ h' φ' ρ nl) (hk : Keeps w M w M') : ∀ {v0 v : List AV} {u : List Value}, RelsA h' ρ nl v0 v → I.repVs h φ w M v0 u → I.repVs h' φ' w M' v u
  | [], v, u, hv, e => by
    simp only [RelsA] at hv
    subst hv
    simpa only [I.repVs] using e
  | x :: xs, v, u, ⟨y, ys, e1, h1, h2⟩, e => by
    subst e1
    simp only [I.repVs] at e ⊢
    obtain ⟨a, b, rfl, g1, g2⟩ := e
    exact ⟨a, b, rfl, hr.relA hk h1 g1, Ren.relsA hr hk h2 g2⟩
section
variable {P : Program} {N : Nat} {G : World → Prop} {F : Specs} {hs : Nat → Option Hint}
theorem rowSpec_none {g : FuncId} {ps es os : List Kd} (hn : enters P g = true) : SpecOk P N G g (rowSpec ps es os (fun _ _ => none)) := by
  refine ⟨hn, fun X h φ w us vals fr v ws tm hs0 hE0 hr hfr he => ?_⟩
  exfalso
  unfold rowSpec at he
  split at he
  rotate_left
  · cases he
  obtain ⟨cs, fws, he, hfre, _, _⟩ := frees_ok (X := X) (φ := φ) (w := w) he
  split at he
  rotate_left
  · cases he
  obtain ⟨d, rs0, hL, he⟩ := absLM_eval he
  split at he
  rotate_left
  · cases he
  rw [eval_opt] at he
  cases he
theorem rowSpec_ok (hst : Stays N G) (hF : ∀ g S, F g = some S → SpecOk P N G g S) (hmix : P.follows .mixedOrders = true) {g : FuncId} {fn : Func} {c : Code} {ps es os : List Kd} {raw : (kdP ps).T → (kdL (owns es)).T → Option (kdL (owns os)).T}
    (hf : P.funcs[g]? = some fn) (hb : fn.body = some c) (hname : enters P g = true) (hos : os ≠ [])
    (hrun : ∀ x d, runFn P F hs fn c (kdL (owns os)).T (argsA ps x ++ concL (owns es) d 64) (concHL (owns es) d 64) 128 (finR os) = raw x d) : SpecOk P N G g (rowSpec ps es os raw) := by
  refine ⟨hname, fun X h φ w us vals fr v ws tm hs0 hE0 hr hfr he => ?_⟩
  unfold rowSpec at he
  split at he
  rotate_left
  · cases he
  rename_i hone
  obtain ⟨cs, fws, he, hfre, _, _⟩ := frees_ok (X := X) (φ := φ) (w := w) he
  split at he
  rotate_left
  · cases he
  rename_i x hx
  obtain ⟨d, rs0, hL, he⟩ := absLM_eval he
  split at he
  rotate_left
  · cases he
  rename_i hd0
  simp only [Bool.and_eq_true] at hd0
  rw [eval_opt] at he
  split at he
  rotate_left
  · cases he
  rename_i y hy
  simp only [RM.eval, Option.some.injEq, Prod.mk.injEq] at he
  obtain ⟨rfl, rfl⟩ := he
  have hps := hfre.post hs0
  have hsat := hps.sat
  have hE := Env.post hst hE0 hps
  have hlen0 := Nat.le_of_ble_eq_true hd0.2
  have hul := absL_len hL
  rw [← List.take_append_drop ps.length us] at hr
  obtain ⟨valD, valR, rfl, hrD, hrR⟩ := repVs_append.1 hr
  obtain ⟨ρ, nl, φ1, hr1, hrel1, hout, hown1, hrs1, hlab1⟩ := ren_conc (h := fws ++ h) (φ := φ) (ss := owns es) (ss0 := owns es) (us := us.drop ps.length) (cs := []) (vs := []) (d := d) (rs := rs0) (nx := 64) (g := fun l => l) (dd := []) (by simp [snds, flatL]) rfl (by rw [List.append_nil]; exact hL) hul rfl (distN_somes hd0.1) (fun _ _ _ _ e => e) (fun l hl => by cases hl) (fun l hl => by cases hl)
  have hcat : concM (owns es) (owns es).length [] [] d 64 = concHL (owns es) d 64 := by rw [concM_rows]; simp [deads]
  rw [hcat] at hr1 hrel1 hown1 hrs1 hlab1
  rw [List.take_of_length_le (by rw [concL_len]; exact Nat.le_refl _)] at hrel1
  have hrun1 := hrun x d
  generalize concHL (owns es) d 64 = hp1 at hr1 hrel1 hown1 hrs1 hlab1 hrun1
  rw [hy] at hrun1
  have e1 : Sat (rest X (fws ++ h) φ hp1 φ1) hp1 φ1 w := enter hr1 hsat (fun b hb => hb.1) (fun b hb => hb.2)
  have hk1 : Keeps w (MB X (fws ++ h) φ) w (MB (rest X (fws ++ h) φ hp1 φ1) hp1 φ1) := fun b c t fr hm hb => ⟨hb, by
    rintro (hx | ho)
    · exact hm hx.1
    · exact hm (.inr (hr1.own ho))⟩
  have hcs := hfre.vals hs0 _ (flat_rep hone hrD) _ _ _ _ (Up.refl _ _ _ _)
  have hdat := encVs_rep hx hone hrD hcs
  have hdat1 := argsAs_up (h' := hp1) (φ' := φ1) hk1 _ _ (fun p => argsA_nolab p ps x) hdat
  have hrow := hps.up.repVs hs0.non hrR
  have hrow1 := Ren.relsA hr1 hk1 hrel1 hrow
  have hargs : repVs hp1 φ1 w (MB (rest X (fws ++ h) φ hp1 φ1) hp1 φ1) (argsA ps x ++ concL (owns es) d 64) (valD ++ valR) := repVs_append.2 ⟨_, _, rfl, hdat1, hrow1⟩
  unfold runFn at hrun1
  refine calls_of_wp hf hb ?_
  have hl := repVs_len hargs
  generalize argsA ps x ++ concL (owns es) d 64 = args at hargs hrun1 hl
  generalize valD ++ valR = vals at hargs hl ⊢
  have e0 : fn.ntmps - vals.toArray.size = fn.ntmps - args.length := by simp [hl]
  rw [e0]
  let B : Base := ⟨N, G, hst, rest X (fws ++ h) φ hp1 φ1, hp1, φ1, w, args.length + (fn.ntmps - args.length)⟩
  have hA0 : At B (getT (args ++ List.replicate (fn.ntmps - args.length) (.tup []))) (Hp.get hp1) { tmps := vals.toArray ++ Array.replicate (fn.ntmps - args.length) undef, defers := [] } w :=
    ⟨hp1, φ1, fun _ => rfl, Post.refl e1, ⟨hE.g, hE.n, fun b ho => hE.o b (hr1.own ho)⟩, getT_args hargs _, by simp [B, hl], rfl⟩
  obtain ⟨e, tm', hp', nx', h1, h2⟩ := run_ok (B := B) hF hmix c 0 _ _ _ _ _ _ hrun1 (by simp [B]) (fun k hk => by
    cases hg : hp1.get k with
    | none => rfl
    | some C =>
      rcases hlab1 k C hg with q | q | q
      · cases q.1
      · cases q.1
      · omega) (fun l hl => hl)
  refine h2.wp _ w _ hA0 fun a' w' hA' => ?_
  have fin : (match resV P tm' hp'.get fn.results.toList with
      | some vs => finR os (resOne vs) hp'
      | none => none) = some y → a'.defers = [] ∧ ∃ v, (results fn a'.tmps).run P w' = .ok v w' ∧ ∃ u φ', Ending.returned v = .returned u ∧ Post X h φ w ((concHL (owns os) y fr ++ (deads (somes rs0) ++ fws)) ++ h) φ' w' ∧
        repV ((concHL (owns os) y fr ++ (deads (somes rs0) ++ fws)) ++ h) φ' w' (MB X ((concHL (owns os) y fr ++ (deads (somes rs0) ++ fws)) ++ h) φ') (resOne (concL (owns os) y fr)) u := by
    intro hk
    classical
    obtain ⟨h0, φ2, g1, g2, g3, g4, g5, g6⟩ := hA'
    refine ⟨g6, ?_⟩
    split at hk
    rotate_left
    · cases hk
    rename_i vsr hvs
    have hH : hp'.get = h0.get := (funext g1).symm
    rw [hH] at hvs
    obtain ⟨uu, r1, r2⟩ := run_results g2.sat g4 hvs
    unfold finR at hk
    rw [hH] at hk
    split at hk
    rotate_left
    · cases hk
    rename_i d2 rs2 hL2
    split at hk
    rotate_left
    · cases hk
    rename_i hd2
    simp only [Bool.and_eq_true] at hd2
    injection hk with hk
    subst hk
    have hpost : Post (rest X (fws ++ h) φ hp1 φ1) hp1 φ1 w h0 φ2 w' := g2
    let g' : Nat → Nat := fun l => if hi : ∃ i : Nat, rs0[i]? = some (some l) then 64 + hi.choose else 0
    have harr := absL_arr hL
    have hg'd : ∀ l ∈ somes rs0, ∃ i : Nat, rs0[i]? = some (some l) ∧ g' l = 64 + i := fun l hl => by
      have hi : ∃ i : Nat, rs0[i]? = some (some l) := List.getElem?_of_mem (mem_somes.1 hl)
      refine ⟨hi.choose, hi.choose_spec, ?_⟩
      simp only [g']
      rw [dif_pos hi]
    have hfree : ∀ k, fr ≤ k → k < fr + 64 → (fws ++ h : Hp).get k = none := fun k q1 q2 => by
      rw [get_append]
      cases hw : (fws : Hp).get k with
      | none => exact hfr k q1 q2
      | some C =>
        obtain ⟨e, xs, o, _, q3⟩ := hfre.only k C hw
        rw [hfr k q1 q2] at q3
        cases q3
    have hlen2 := Nat.le_of_ble_eq_true hd2.2
    have hnr : ∀ l, (fws ++ h : Hp).get l ≠ none → ¬ (fr ≤ l ∧ l < fr + rs2.length) := fun l hl hh => hl (hfree l hh.1 (by omega))
    obtain ⟨σ, nl2, ψ, hr2, hrel2, hout2, hown2, hrs2, hlab2⟩ := ren_conc (h := h0) (φ := φ2) (ss := owns os) (ss0 := owns os) (us := resL os (resOne vsr)) (cs := []) (d := d2) (rs := rs2) (vs := []) (nx := fr) (g := g') (dd := somes rs0) (by simp [snds, flatL]) rfl (by rw [List.append_nil]; exact hL2) (absL_len hL2) rfl (distN_somes hd2.1)
      (fun l hl => by cases hl) (fun l hl => by cases hl)
      (fun l hl => by
        obtain ⟨i, hi, he⟩ := hg'd l hl
        obtain ⟨e, xs, hB⟩ := harr l (mem_somes.1 hl)
        refine ⟨?_, hnr l (by rw [hB]; simp)⟩
        rw [he]
        cases hq : hp1.get (64 + i) with
        | none => exact absurd hq (hrs1 i l hi).2.2
        | some C =>
          obtain ⟨B', q1, _⟩ := hpost.up.later _ _ hq
          rw [q1]; simp)
    have hdeadw : ∀ l ∈ somes rs0, (concM (owns os) (owns os).length [] (somes rs0) d2 fr : Hp).get l ≠ none := fun l hl => concM_dead hl
    rw [List.take_of_length_le (by rw [concL_len]; exact Nat.le_refl _)] at hrel2
    have hass : ((concHL (owns os) d2 fr ++ (deads (somes rs0) ++ fws)) ++ h : Hp) = (concM (owns os) (owns os).length [] (somes rs0) d2 fr ++ (fws ++ h) : Hp) := by
      rw [concM_rows]; simp [List.append_assoc]
    rw [hass]
    generalize concM (owns os) (owns os).length [] (somes rs0) d2 fr = wsM at hr2 hrel2 hown2 hrs2 hlab2 hdeadw ⊢
    have hown : ∀ b, ownB hp1 φ1 b → ownB (fws ++ h) φ b := fun b ho => hr1.own ho
    have hold : ∀ l B, (fws ++ h : Hp).get l = some B → wsM.get l = none → B.mutl = true → ∀ b, φ l = some b → ¬ ownB hp1 φ1 b := fun l B hB hw hm b hb ho => by
      obtain ⟨l', B', q1, q2, q3, q4⟩ := hown1 b ho
      have := hsat.inj l l' B B' b hB q1 hm q2 hb q3
      subst this
      rcases q4 with ⟨k, hk, e⟩ | hm'
      · cases hk
      · exact hdeadw l (mem_somes.2 hm') hw
    have hcasew : ∀ l, (fws ++ h : Hp).get l ≠ none → ∀ C, wsM.get l = some C → l ∈ somes rs0 ∧ C = .dead := fun l hl C hC => by
      rcases hlab2 l C hC with ⟨q1, q2⟩ | q | q
      · cases q1
      · exact q
      · exact absurd q (hnr l hl)
    have hlabw : ∀ l, (fws ++ h : Hp).get l ≠ none → wsM.get l ≠ none → ψ l = φ l := fun l hl hw => by
      obtain ⟨q3, q4⟩ := hout2 l (hnr l hl)
      have q5 := hr2.lab l hw q4
      cases hC : wsM.get l with
      | none => exact absurd hC hw
      | some C =>
        obtain ⟨q, _⟩ := hcasew l hl C hC
        obtain ⟨i, hi, he⟩ := hg'd l q
        obtain ⟨p1, p2, p3⟩ := hrs1 i l hi
        rw [q5, q3, he, hpost.up.lab _ p3, hr1.lab _ p3 p2, p1]
    have hleave := leave (ws := wsM) (ψ := ψ) hsat hown hpost hr2 hold hlabw (fun l B C hB hC => by
      obtain ⟨_, rfl⟩ := hcasew l (by rw [hB]; simp) C hC
      cases B <;> simp [Later])
    obtain ⟨hsub, hupw⟩ := leave_up (w2 := w') (ψ := ψ) hsat hown hold
    have hfin := Post.trans hps hleave
    refine ⟨if h : uu.length = 1 then uu[0] else .tuple uu.toArray, ?_, _, _, rfl, hfin, ?_⟩
    · rw [results_eq, Sem.run_bind, Array.mapM_eq_mapM_toList]
      simp only [Sem.run_bind, Sem.run_map, r1, Result.andThen_ok, Sem.run_pure]
      congr 1
    · have hro := resOne_rep r2
      generalize (if h : uu.length = 1 then uu[0] else Value.tuple uu.toArray) = u at hro ⊢
      generalize resOne vsr = v at hro hrel2
      have hk2 : Keeps w' (MB (rest X (fws ++ h) φ hp1 φ1) h0 φ2) w' (MB (rest X (fws ++ h) φ hp1 φ1) wsM ψ) := hr2.keeps
      have hnon : ∀ l, wsM.get l = none → ψ l = none := hr2.non
      cases os with
      | nil => exact absurd rfl hos
      | cons k os =>
        cases os with
        | nil =>
          simp only [resL] at hrel2
          have h3 := Ren.relsA hr2 hk2 hrel2 (u := [u]) ⟨u, [], rfl, hro, rfl⟩
          have h4 := hupw.repVs hnon h3
          simp only [owns, concL, repVs, resOne] at h4 ⊢
          obtain ⟨a, b, e3, h5, _⟩ := h4
          simp only [List.cons.injEq] at e3
          obtain ⟨rfl, _⟩ := e3
          exact h5
        | cons k' os =>
          simp only [resL] at hrel2
          cases v with
          | tup vs0 =>
            simp only [repV] at hro
            obtain ⟨a0, rfl, q⟩ := hro
            have h3 := Ren.relsA hr2 hk2 hrel2 q
            have h4 := hupw.repVs hnon h3
            simp only [owns, concL, resOne, repV] at h4 ⊢
            exact ⟨a0, rfl, h4⟩
          | _ =>
            exfalso
            have := RelsA_len hrel2
            rw [concL_len] at this
            simp [owns] at this
  cases e with
  | normal => simp only at h1; exact fin h1
  | ret => simp only at h1; exact fin h1
  | exit i => cases h1
end
end Go.Proofs.YtdfgfjnpllncdaaGreatDoor.I

namespace Go.Proofs.YtdfgfjnpllncdaaGreatDoor.I
open Go.RowKit
set_option linter.unusedVariables false

/-- Is a type (or: are these fields, from a place on) told by a kind? -/
def kindR (P : Program) : Kd → (TypeId ⊕ (List Field × Nat)) → Bool
  | .int k, .inl t => match P.underlying t with
    | some (.int k') => decide (k' = k)
    | _ => false
  | .bool, .inl t => match P.underlying t with
    | some .bool => true
    | _ => false
  | .str, .inl t => match P.underlying t with
    | some .string => true
    | _ => false
  | .slice e, .inl t => match P.underlying t with
    | some (.slice u) => Nat.beq (P.cellsOf u) e.wd && (Nat.ble 1 e.wd && kindR P e (.inl u))
    | _ => false
  | .unit, .inr (fs, _) => match fs with
    | [] => true
    | _ => false
  | .pair a b, .inr (fs, off) => match fs with
    | f :: fs => Nat.beq f.offset off && (Nat.beq (P.cellsOf f.type) a.wd && (kindR P a (.inl f.type) && kindR P b (.inr (fs, off + a.wd))))
    | [] => false
  | .pair a b, .inl t => match P.underlying t with
    | some (.struct fs) => Nat.beq (P.cellsOf t) (a.wd + b.wd) && (match fs.toList with
      | f :: fs => Nat.beq f.offset 0 && (Nat.beq (P.cellsOf f.type) a.wd && (kindR P a (.inl f.type) && kindR P b (.inr (fs, 0 + a.wd))))
      | [] => false)
    | _ => false
  | .tree p, .inl t => match P.underlying t with
    | some (.struct fs) => match fs.toList.getLast? with
      | some f => (match P.underlying f.type with
          | some (.slice u) => Nat.beq u t
          | _ => false) && (Nat.beq f.offset p.wd && (Nat.beq (P.cellsOf f.type) 1 && (Nat.beq (P.cellsOf t) (p.wd + 1) && kindR P p (.inr (fs.toList.dropLast, 0)))))
      | none => false
    | _ => false
  | _, _ => false
/-- What the machine's memory bounds. -/
def small : (k : Kd) → k.T → Prop
  | .int k, n => (Lit.int k n).wf = true
  | .str, s => s.size ≤ maxLen
  | .slice e, xs => xs.length ≤ maxLen ∧ ∀ x ∈ xs, small e x
  | .pair a b, x => small a x.1 ∧ small b x.2
  | .tree p, t => smallT (small p) t
  | _, _ => True
where
  smallT {α : Type} (f : α → Prop) : Tree α → Prop
    | .node v ks => f v ∧ ks.length ≤ maxLen ∧ smallTs f ks
  smallTs {α : Type} (f : α → Prop) : List (Tree α) → Prop
    | [] => True
    | t :: ts => smallT f t ∧ smallTs f ts
/-- How many values and letters a datum holds. -/
def bulkK : (k : Kd) → k.T → Nat
  | .int _, _ => 1
  | .bool, _ => 1
  | .str, s => ByteArray.size s + 1
  | .slice e, xs => (List.map (bulkK e) xs).sum + 1
  | .pair a b, x => bulkK a x.1 + bulkK b x.2
  | .tree p, t => bulkT (bulkK p) t
  | _, _ => 0
where
  bulkT {α : Type} (f : α → Nat) : Tree α → Nat
    | .node v ks => f v + bulkTs f ks + 1
  bulkTs {α : Type} (f : α → Nat) : List (Tree α) → Nat
    | [] => 0
    | t :: ts => bulkT f t + bulkTs f ts
mutual
def dB {H : Type} : DataW H → Nat
  | .lit (.string b) => b.length + 1
  | .lit _ => 1
  | .slice es _ => dBs es + 1
  | .agg es => dBs es
  | .nil => 1
  | _ => 0
def dBs {H : Type} : List (DataW H) → Nat
  | [] => 0
  | d :: ds => dB d + dBs ds
end
theorem smallTs_iff {α : Type} {f : α → Prop} : ∀ {ks : List (Tree α)}, small.smallTs f ks ↔ ∀ t ∈ ks, small.smallT f t
  | [] => by simp [small.smallTs]
  | t :: ts => by simp [small.smallTs, smallTs_iff (ks := ts)]
theorem bulkTs_eq {α : Type} (f : α → Nat) : ∀ (ks : List (Tree α)), bulkK.bulkTs f ks = (ks.map (bulkK.bulkT f)).sum
  | [] => rfl
  | t :: ts => by simp only [bulkK.bulkTs, List.map_cons, List.sum_cons, bulkTs_eq f ts]
theorem dBs_sum {H : Type} : ∀ (ds : List (DataW H)), dBs ds = (ds.map dB).sum
  | [] => rfl
  | d :: ds => by simp only [dBs, List.map_cons, List.sum_cons, dBs_sum ds]
theorem sum_le_at {α β : Type} (f : α → Nat) (g : β → Nat) : ∀ (xs : List α) (ys : List β), xs.length = ys.length → (∀ (i : Nat) x y, xs[i]? = some x → ys[i]? = some y → f x ≤ g y) → (xs.map f).sum ≤ (ys.map g).sum
  | [], [], _, _ => Nat.le_refl _
  | x :: xs, y :: ys, h, k => by
    have h1 := k 0 x y rfl rfl
    have h2 := sum_le_at f g xs ys (by simpa using h) (fun i a b ha hb => k (i + 1) a b (by simpa using ha) (by simpa using hb))
    simp only [List.map_cons, List.sum_cons]
    omega
  | [], _ :: _, h, _ => by simp at h
  | _ :: _, [], h, _ => by simp at h
section
variable {P : Program} {H : Type} {enc : TypeId × Value → H} {w : World} {base : Nat} {spare : Nat → Bool} {held : Bool} {M : Nat → Prop}
theorem reps_of {α : Type} {R : α → List Value → Prop} {n : Nat} : ∀ {xs : List α} {vs : List Value}, (∀ (i : Nat) x, xs[i]? = some x → R x ((vs.drop (i * n)).take n)) → reps R xs vs
  | [], _, _ => trivial
  | x :: xs, vs, h => by
    refine ⟨vs.take n, vs.drop n, (List.take_append_drop n vs).symm, by simpa using h 0 x rfl, reps_of (n := n) (fun i y hy => ?_)⟩
    have := h (i + 1) y (by simpa using hy)
    rwa [List.drop_drop, show n + i * n = (i + 1) * n by rw [Nat.succ_mul, Nat.add_comm]]
theorem slice_of_trod {e : Kd} {t u : TypeId} {m : Nat} {cs : List Value} {y : DataW H × List MemPlace} (hM : ∀ b, ¬ M b) (ht : P.underlying t = some (.slice u)) (hc : P.cellsOf u = e.wd) (h1 : 1 ≤ e.wd)
    (hE : ∀ n, n < m → ∀ cs y, DataW.trod enc P w base spare held n u cs = some y → ∃ x : e.T, rep w M e x cs ∧ small e x ∧ bulkK e x ≤ dB y.1) (h : DataW.trod enc P w base spare held m t cs = some y) :
    ∃ (xs : List e.T) (v : Value), cs = [v] ∧ sliceRep w M (rep w M e) xs v ∧ xs.length ≤ maxLen ∧ (∀ x ∈ xs, small e x) ∧ (xs.map (bulkK e)).sum + 1 ≤ dB y.1 := by
  rcases DataW.trod_slice ht h with ⟨rfl, rfl⟩ | ⟨a, len, cap, elems, rest, n, rfl, rfl, rfl, _, hl, hm, hlen, hx, _, _⟩
  · exact ⟨[], _, rfl, ⟨none, 0, rfl, Nat.le_refl _, fun h => absurd rfl h⟩, by simp, (fun x hx => by cases hx), by simp [dB]⟩
  · have key : ∀ i, i < len → ∃ (x : e.T) (cs' : List Value), rep w M e x cs' ∧ (small e x ∧ ∀ z, elems[i]? = some z → bulkK e x ≤ dB z.1) ∧ cs'.length = e.wd ∧ ∀ j, j < e.wd → w.cell? ((a.add (i * e.wd)).add j) = cs'[j]? := by
      intro i hi
      have h2 := hx i hi
      have hei : elems[i]? = some elems[i] := List.getElem?_eq_getElem (by omega)
      rw [hei] at h2
      obtain ⟨cs', h3, h4⟩ := Option.bind_eq_some_iff.1 h2
      obtain ⟨x, h5, h6, h6b⟩ := hE n (Nat.lt_succ_self n) _ _ h4
      rw [hc] at h3
      obtain ⟨-, h7, h8⟩ := World.cells?_some h3
      exact ⟨x, cs', h5, ⟨h6, fun z hz => by rw [hei] at hz; injection hz with hz; subst hz; exact h6b⟩, h7, h8⟩
    have key2 : ∀ n, n ≤ len → ∃ xs : List e.T, xs.length = n ∧ ∀ (i : Nat) (x : e.T), xs[i]? = some x → ∃ cs', rep w M e x cs' ∧ (small e x ∧ ∀ z, elems[i]? = some z → bulkK e x ≤ dB z.1) ∧ cs'.length = e.wd ∧ ∀ j, j < e.wd → w.cell? ((a.add (i * e.wd)).add j) = cs'[j]? := by
      intro n
      induction n with
      | zero => intro _; exact ⟨[], rfl, fun i x hx => by simp at hx⟩
      | succ n ih =>
        intro hn
        obtain ⟨xs, h2, h3⟩ := ih (by omega)
        obtain ⟨x, cs', h4⟩ := key n (by omega)
        refine ⟨xs ++ [x], by simp [h2], fun i z hz => ?_⟩
        rw [List.getElem?_append] at hz
        split at hz
        · exact h3 i z hz
        · rename_i hi
          have : i = n := by
            have := (List.getElem?_eq_some_iff.1 hz).1
            simp at this; omega
          subst this
          rw [h2] at hz
          simp at hz
          subst hz
          exact ⟨cs', h4⟩
    obtain ⟨xs, hxl, hxs⟩ := key2 len (Nat.le_refl _)
    refine ⟨xs, _, rfl, ⟨some a, cap, by rw [hxl], by omega, fun hne => ⟨a, rfl, ?_⟩⟩, by omega, fun x hx => ?_, ?_⟩
    · obtain ⟨x0, hx0⟩ : ∃ x, xs[0]? = some x := by
        cases xs with
        | nil => exact absurd rfl hne
        | cons x xs => exact ⟨x, rfl⟩
      obtain ⟨cs0, _, _, hl0, hc0⟩ := hxs 0 x0 hx0
      have hcell := hc0 0 (by omega)
      rw [List.getElem?_eq_getElem (by omega)] at hcell
      rw [show (a.add (0 * e.wd)).add 0 = a by simp [Addr.add]] at hcell
      unfold World.cell? at hcell
      split at hcell
      · rename_i c tt fr hb
        split at hcell
        · cases hcell
        · rename_i hsp
          have hsp : a.spot = none := by simpa using hsp
          refine ⟨hsp, hM _, c, tt, fr, hb, reps_of (n := e.wd) (fun i x hx => ?_)⟩
          obtain ⟨cs', k1, _, k2, k3⟩ := hxs i x hx
          have : ((c.toList.drop a.off).drop (i * e.wd)).take e.wd = cs' := by
            apply List.ext_getElem?
            intro j
            rw [List.getElem?_take]
            split
            · rename_i hj
              rw [← k3 j hj, List.drop_drop, List.getElem?_drop]
              obtain ⟨ab, ao, asp⟩ := a
              simp only at hsp hb
              subst hsp
              rw [Addr.add_lit, Addr.add_lit, cell_blk hb]
              simp
            · rename_i hj
              rw [List.getElem?_eq_none (by omega)]
          rw [this]
          exact k1
      · cases hcell
    · obtain ⟨i, hi⟩ := List.mem_iff_getElem?.1 hx
      obtain ⟨_, _, h2, _⟩ := hxs i x hi
      exact h2.1
    · simp only [dB, dBs_sum, List.map_map]
      refine Nat.succ_le_succ (sum_le_at (bulkK e) _ xs elems (by omega) (fun i x z h1 h2 => ?_))
      obtain ⟨_, _, h3, _⟩ := hxs i x h1
      exact h3.2 z h2
theorem fields_of_trod {m : Nat} (hA : ∀ (k : Kd) (t : TypeId) (cs : List Value) (y : DataW H × List MemPlace), kindR P k (.inl t) = true → DataW.trod enc P w base spare held m t cs = some y → ∃ x : k.T, rep w M k x cs ∧ small k x ∧ bulkK k x ≤ dB y.1) :
    ∀ (k : Kd) (fs : List Field) (ys : List (DataW H × List MemPlace)) (off : Nat) (cs : List Value), kindR P k (.inr (fs, off)) = true → (∀ (i : Nat) f, fs[i]? = some f → ∃ y, ys[i]? = some y ∧ DataW.trod enc P w base spare held m f.type ((cs.drop f.offset).take (P.cellsOf f.type)) = some y) → ∃ x : k.T, rep w M k x ((cs.drop off).take k.wd) ∧ small k x ∧ bulkK k x ≤ (ys.map (fun y => dB y.1)).sum
  | .unit, fs, ys, off, cs, _, _ => ⟨(), by simp [rep, Kd.wd], trivial, Nat.zero_le _⟩
  | .pair a b, fs, ys, off, cs, h, hf => by
    simp only [kindR] at h
    split at h
    · rename_i f fs
      simp only [Bool.and_eq_true] at h
      obtain ⟨h1, h2, h3, h4⟩ := h
      have h1 := Nat.eq_of_beq_eq_true h1
      have h2 := Nat.eq_of_beq_eq_true h2
      obtain ⟨y, hy0, hy⟩ := hf 0 f rfl
      rw [h1, h2] at hy
      obtain ⟨y', ys, rfl⟩ : ∃ y' ys', ys = y' :: ys' := by
        cases ys with
        | nil => cases hy0
        | cons y' ys => exact ⟨_, _, rfl⟩
      injection hy0 with hy0
      subst hy0
      obtain ⟨x, g1, g2, g5⟩ := hA a f.type _ _ h3 hy
      obtain ⟨z, g3, g4, g6⟩ := fields_of_trod hA b fs ys (off + a.wd) cs h4 (fun i f hm => by simpa using hf (i + 1) f (by simpa using hm))
      refine ⟨(x, z), ⟨_, _, ?_, g1, g3⟩, ⟨g2, g4⟩, ?_⟩
      · rw [Kd.wd, ← List.drop_drop, List.take_add]
      · show bulkK a x + bulkK b z ≤ _
        simp only [List.map_cons, List.sum_cons]
        omega
    · cases h
  | .int _, _, _, _, _, h, _ | .bool, _, _, _, _, h, _ | .str, _, _, _, _, h, _ | .slice _, _, _, _, _, h, _ | .tree _, _, _, _, _, h, _ | .fn _, _, _, _, _, h, _ | .fb _, _, _, _, _, h, _ | .err, _, _, _, _, h, _ => by simp [kindR] at h
theorem rep_of_trod (hM : ∀ b, ¬ M b) (m : Nat) : ∀ (k : Kd) (t : TypeId) (cs : List Value) (y : DataW H × List MemPlace), kindR P k (.inl t) = true → DataW.trod enc P w base spare held m t cs = some y → ∃ x : k.T, rep w M k x cs ∧ small k x ∧ bulkK k x ≤ dB y.1 := by
  induction m using Nat.strongRecOn with
  | _ m ih =>
    intro k t cs y hk h
    cases k with
    | int k =>
      simp only [kindR] at hk
      split at hk
      · rename_i k' hu
        have hk : k' = k := by simpa using hk
        subst hk
        obtain ⟨n, rfl, rfl, hw⟩ := DataW.trod_int hu h
        exact ⟨n, rfl, hw, by simp [bulkK, dB]⟩
      · cases hk
    | bool =>
      simp only [kindR] at hk
      split at hk
      · rename_i hu
        obtain ⟨n, rfl, rfl⟩ := DataW.trod_bool hu h
        exact ⟨n, rfl, trivial, by simp [bulkK, dB]⟩
      · cases hk
    | str =>
      simp only [kindR] at hk
      split at hk
      · rename_i hu
        obtain ⟨n, rfl, rfl, hs⟩ := DataW.trod_string hu h
        exact ⟨n, rfl, hs, by simp only [bulkK, dB, Array.length_toList]; exact Nat.le_refl _⟩
      · cases hk
    | slice e =>
      simp only [kindR] at hk
      split at hk
      · rename_i u hu
        simp only [Bool.and_eq_true] at hk
        obtain ⟨h1, h2, h3⟩ := hk
        obtain ⟨xs, v, rfl, g1, g2, g3, g4⟩ := slice_of_trod (e := e) hM hu (Nat.eq_of_beq_eq_true h1) (Nat.le_of_ble_eq_true h2) (fun n hn cs y hy => ih n hn e u cs y h3 hy) h
        exact ⟨xs, ⟨v, rfl, g1⟩, ⟨g2, g3⟩, g4⟩
      · cases hk
    | pair a b =>
      simp only [kindR] at hk
      split at hk
      · rename_i fs hu
        simp only [Bool.and_eq_true] at hk
        obtain ⟨h0, hk⟩ := hk
        have h0 := Nat.eq_of_beq_eq_true h0
        have hk2 : kindR P (.pair a b) (.inr (fs.toList, 0)) = true := by
          simp only [kindR]
          split at hk
          · rename_i f r hfs
            exact hk
          · cases hk
        obtain ⟨xs, n, rfl, rfl, hl, hxl, hf⟩ := DataW.trod_struct hu h
        obtain ⟨x, g1, g2, g3⟩ := fields_of_trod (fun k t cs y => ih n (Nat.lt_succ_self n) k t cs y) (.pair a b) fs.toList xs 0 cs hk2 (fun i f hi => by
          have h1 := hf i f (by simpa using hi)
          have hlt := (List.getElem?_eq_some_iff.1 hi).1
          rw [List.getElem?_eq_getElem (by simp at hlt; omega)] at h1
          exact ⟨_, List.getElem?_eq_getElem (by simp at hlt; omega), h1⟩)
        refine ⟨x, ?_, g2, by simp only [dB, dBs_sum, List.map_map]; exact g3⟩
        rw [List.drop_zero, List.take_of_length_le (by rw [hl, h0]; exact Nat.le_refl _)] at g1
        exact g1
      · cases hk
    | tree p =>
      simp only [kindR] at hk
      split at hk
      · rename_i fs hu
        split at hk
        · rename_i f hlast
          simp only [Bool.and_eq_true] at hk
          obtain ⟨h1, h2, h3, h4, h5⟩ := hk
          have h2 := Nat.eq_of_beq_eq_true h2
          have h3 := Nat.eq_of_beq_eq_true h3
          have h4 := Nat.eq_of_beq_eq_true h4
          split at h1
          · rename_i u hfu
            have h1 := Nat.eq_of_beq_eq_true h1
            subst h1
            obtain ⟨xs, n, rfl, rfl, hl, hxl, hf⟩ := DataW.trod_struct hu h
            have hall : ∀ (i : Nat) g, fs.toList[i]? = some g → ∃ y, xs[i]? = some y ∧ DataW.trod enc P w base spare held n g.type ((cs.drop g.offset).take (P.cellsOf g.type)) = some y := fun i g hi => by
              have h1 := hf i g (by simpa using hi)
              have hlt := (List.getElem?_eq_some_iff.1 hi).1
              rw [List.getElem?_eq_getElem (by simp at hlt; omega)] at h1
              exact ⟨_, List.getElem?_eq_getElem (by simp at hlt; omega), h1⟩
            obtain ⟨ys, yl, rfl⟩ : ∃ ys yl, xs = ys ++ [yl] := by
              have hne : xs ≠ [] := fun he => by
                subst he
                have : fs.toList = [] := List.eq_nil_of_length_eq_zero (by simpa using hxl.symm)
                rw [this] at hlast
                cases hlast
              exact ⟨xs.dropLast, xs.getLast hne, (List.dropLast_concat_getLast hne).symm⟩
            have hlen : ys.length = fs.toList.dropLast.length := by
              rw [List.length_append] at hxl
              have e0 : fs.toList.length = fs.size := Array.length_toList
              simp only [List.length_cons, List.length_nil] at hxl
              rw [List.length_dropLast, e0]
              omega
            obtain ⟨x, g1, g2, g3⟩ := fields_of_trod (fun k t cs y => ih n (Nat.lt_succ_self n) k t cs y) p fs.toList.dropLast ys 0 cs h5 (fun i g hg => by
              have hlt := (List.getElem?_eq_some_iff.1 hg).1
              rw [List.getElem?_dropLast] at hg
              split at hg
              · obtain ⟨y, q1, q2⟩ := hall i g hg
                rw [List.getElem?_append_left (by omega)] at q1
                exact ⟨y, q1, q2⟩
              · cases hg)
            have hlast2 : fs.toList[ys.length]? = some f := by
              rw [List.getLast?_eq_getElem?] at hlast
              rw [hlen, List.length_dropLast]
              exact hlast
            obtain ⟨y', hy0, hy'⟩ := hall _ f hlast2
            simp only [List.getElem?_concat_length, Option.some.injEq] at hy0
            subst hy0
            rw [h2, h3] at hy'
            obtain ⟨ks, v, hv, k1, k2, k3, k4⟩ := slice_of_trod (e := .tree p) hM hfu (by rw [h4]; rfl) (by simp [Kd.wd]) (fun n' hn' cs y hy => ih n' (Nat.lt_succ_of_lt hn') (.tree p) u cs y (by
              simp only [kindR]
              rw [hu]
              simp only [hlast, hfu, Bool.and_eq_true]
              exact ⟨Nat.beq_refl u, by rw [h2]; exact Nat.beq_refl _, by rw [h3]; rfl, by rw [h4]; exact Nat.beq_refl _, h5⟩) hy) hy'
            refine ⟨.node x ks, rep_tree.2 ⟨(cs.drop 0).take p.wd, v, ?_, g1, k1⟩, ⟨g2, k2, smallTs_iff.2 k3⟩, ?_⟩
            rotate_left
            · simp only [bulkK, bulkK.bulkT, bulkTs_eq, dB, dBs_sum, List.map_append, List.map_map, List.sum_append, List.map_cons, List.map_nil, List.sum_cons, List.sum_nil] at g3 k4 ⊢
              have k5 : (ks.map (bulkK.bulkT (bulkK p))).sum + 1 ≤ dB yl.1 := k4
              have g5 : bulkK p x ≤ (ys.map (dB ∘ fun x => x.fst)).sum := g3
              omega
            rw [← hv, List.drop_zero]
            have : cs.length = p.wd + 1 := by rw [hl, h4]
            rw [List.take_of_length_le (i := 1) (by rw [List.length_drop]; omega), List.take_append_drop]
          · cases h1
        · cases hk
      · cases hk
    | _ => simp [kindR] at hk
end
end Go.Proofs.YtdfgfjnpllncdaaGreatDoor.I

namespace Go.Proofs.YtdfgfjnpllncdaaGreatDoor.I
open Go.RowKit
set_option linter.unusedVariables false
def plainT : Option TypeDesc → Bool
  | some (.int _) | some .bool | some .string | some (.slice _) => true
  | _ => false
section
variable {P : Program} {H : Type} {enc : TypeId × Value → H} {W : World} {base : Nat} {spare : Nat → Bool} {held : Bool} {r : Reach} {N : Nat} {G : World → Prop}
theorem one_of_okWide {t : TypeId} {v : Value} (hp : plainT (P.underlying t) = true) (h : Value.okWide P W r base t v) : v.oneCell' = true := by
  unfold Value.okWide Cell.okWide Cell.ok at h
  cases hu : P.underlying t with
  | none => rw [hu] at hp; cases hp
  | some d =>
    rw [hu] at h hp
    cases d <;> first | (cases hp; done) | (cases v <;> first | rfl | exact h.elim | (simp at h; done))
theorem agg_of_okWide {t : TypeId} {v : Value} (hp : aggOf P t = true) (h : Value.okWide P W r base t v) : ∃ a, v = .agg a := by
  unfold aggOf at hp
  unfold Value.okWide at h
  split at hp
  · rename_i hu
    rw [hu] at h
    obtain ⟨cs, h, _⟩ := h
    exact ⟨cs, h⟩
  · rename_i hu
    rw [hu] at h
    obtain ⟨cs, h, _⟩ := h
    exact ⟨cs, h⟩
  · cases hp
theorem kindR_plain {k : Kd} {t : TypeId} (h : kindR P k (.inl t) = true) : (k.isAgg = true → aggOf P t = true) ∧ (k.isAgg = false → plainT (P.underlying t) = true) := by
  cases k <;> simp only [kindR] at h <;> first
    | (cases h; done)
    | (split at h <;> first
        | (rename_i hu; exact ⟨fun h => (by cases h), fun _ => by rw [hu]; rfl⟩)
        | (rename_i hu; exact ⟨fun _ => by unfold aggOf; rw [hu], fun h => (by cases h)⟩)
        | (cases h; done))
/-- With how much it holds. -/
theorem arg_ofB {k : Kd} {t : TypeId} {v : Value} {d : DataW H} {p : List MemPlace} {b0 : Nat} (hk : kindR P k (.inl t) = true) (hv : Value.okWide P W r b0 t v) (h : DataW.Trod enc P W base spare held t v d p) :
    ∃ x : k.T, repV [] (fun _ => none) W (fun _ => False) (k.val x) v ∧ small k x ∧ bulkK k x ≤ dB d := by
  obtain ⟨m, h⟩ := h
  obtain ⟨x, h1, h2, h3⟩ := rep_of_trod (M := fun _ => False) (fun _ h => h) m k t _ _ hk h
  obtain ⟨g1, g2⟩ := kindR_plain hk
  exact ⟨x, val_rep h1 (fun ha => agg_of_okWide (g1 ha) hv) (fun ha => one_of_okWide (g2 ha) hv), h2, h3⟩
theorem below_of_chg {w w' : World} (h : Chg (fun _ => False) w w') : Below w.heap.size w w' :=
  ⟨h.os, h.tape, h.output, h.size, fun k hk => h.same k hk (fun h => h)⟩
theorem chg_of_below {w w' : World} (h : Below w.heap.size w w') : Chg (fun _ => False) w w' :=
  ⟨h.os, h.tape, h.output, h.size, fun k hk _ => h.block k hk, fun b c t fr hb => ⟨c, t, fr, by rw [h.block b (heap_lt hb)]; exact hb, rfl⟩⟩
theorem law_calls {g : FuncId} {ps : List Kd} {raw : (kdP ps).T → Option (kdP [.bool]).T} (hp : PureOk P N G g ps [.bool] raw) (hG : G W) (hN : N ≤ W.heap.size) {x : (kdP ps).T} (hraw : raw x = some (true, ())) {vals : List Value} (hr : repVs [] (fun _ => none) W (fun _ => False) (argsA ps x) vals) :
    Calls P g vals.toArray W fun e w' => e = .returned (.bool true) ∧ Below W.heap.size W w' := by
  refine (hp.calls (fun _ => False) W x (true, ()) vals (fun b h => h.elim) hG hN hr hraw).mono ?_
  rintro e w' ⟨u, rfl, h1, h2⟩
  have h2 : repV [] (fun _ => none) w' (fun _ => False) (.bool true) u := h2
  simp only [repV] at h2
  subst h2
  exact ⟨rfl, below_of_chg h1⟩
/-- A contract shown by hand, of scalars. -/
theorem pure_of_calls {g : FuncId} {ps rs : List Kd} {raw : (kdP ps).T → Option (kdP rs).T} (he : enters P g = true) (hs : scalarL rs = true)
    (h : ∀ (w : World) (x : (kdP ps).T) (y : (kdP rs).T) (vals : List Value), (∀ (h : Hp) φ (M : Nat → Prop), repVs h φ w M (argsA ps x) vals) → raw x = some y → Calls P g vals.toArray w fun e w' => ∃ u, e = .returned u ∧ Below w.heap.size w w' ∧ repV [] (fun _ => none) w (fun _ => False) (resA rs y) u) (ha : scalarL ps = true) : PureOk P N G g ps rs raw :=
  ⟨he, fun X w x y vals hX hG hN hr hy => (h w x y vals (fun h' φ' M' => scalar_args ha hr) hy).mono fun e w' ⟨u, h1, h2, h3⟩ => ⟨u, h1, chg_of_below h2, scalar_res hs h3⟩⟩
end
end Go.Proofs.YtdfgfjnpllncdaaGreatDoor.I

namespace Go.Proofs.YtdfgfjnpllncdaaGreatDoor
open Go.RowKit

/-- What is known of an operation's value: the value itself, or what is true of it in this world and in all later ones. -/
inductive Fact where
  | det (v : Value)
  | fresh (f : Value → World → Prop)
def Fact.at_ : Fact → Value → World → Prop
  | .det v, u, _ => u = v
  | .fresh f, u, w => f u w
def Fact.mono : Fact → Prop
  | .det _ => True
  | .fresh f => ∀ u w w', Below w.heap.size w w' → f u w → f u w'
theorem Fact.keep {f : Fact} (hm : f.mono) {u : Value} {w w' : World} (hb : Below w.heap.size w w') (h : f.at_ u w) : f.at_ u w' := by
  cases f with
  | det v => exact h
  | fresh f => exact hm u w w' hb h

section
variable {P : Program}

/-- The frame with the region's values put in. -/
def fill : Nat → List Oper → Act → (Nat → Value) → Act
  | _, [], a, _ => a
  | k, o :: l, a, xs => fill (k + 1) l (a.put o.dst (xs k)) xs

end
end Go.Proofs.YtdfgfjnpllncdaaGreatDoor

namespace Go.Proofs.YtdfgfjnpllncdaaGreatDoor
open Go.RowKit
section
variable {P : Program}

theorem count_set {n i : Nat} {listed : Array Bool} (hsz : listed.size = n) (hil : i < n) (h0 : listed.getD i true = false) :
    (List.range n).countP (fun j => listed.getD j true == false) = (List.range n).countP (fun j => (listed.setIfInBounds i true).getD j true == false) + 1 := by
  have hnd : (List.range n).Nodup := List.nodup_range
  have hmem : i ∈ List.range n := List.mem_range.2 hil
  generalize List.range n = l at hnd hmem
  induction l with
  | nil => cases hmem
  | cons x l ihl =>
    obtain ⟨hx, hnd⟩ := List.nodup_cons.1 hnd
    by_cases hxi : x = i
    · subst hxi
      have e2 : (listed.setIfInBounds x true).getD x true = true := by
        have : x < listed.size := by omega
        simp [this]
      rw [List.countP_cons, List.countP_cons, h0, e2]
      have : l.countP (fun j => listed.getD j true == false) = l.countP (fun j => (listed.setIfInBounds x true).getD j true == false) := by
        refine List.countP_congr fun y hy => ?_
        have hne : x ≠ y := fun e => hx (e ▸ hy)
        rw [getD_set_ne true hne]
      rw [this]
      simp
    · have hm : i ∈ l := by
        rcases List.mem_cons.1 hmem with h | h
        · exact absurd h.symm hxi
        · exact h
      rw [List.countP_cons, List.countP_cons, getD_set_ne true (fun e => hxi e.symm), ihl hnd hm]
      omega
theorem getD_sw {listed : Array Bool} {j : Nat} (h : j < listed.size) (b : Bool) : listed.getD j b = listed.getD j (!b) := by
  simp only [Array.getD_eq_getD_getElem?, Array.getElem?_eq_getElem h, Option.getD_some]

end
end Go.Proofs.YtdfgfjnpllncdaaGreatDoor

set_option linter.unusedVariables false
set_option linter.unusedSimpArgs false
namespace Go.Proofs.YtdfgfjnpllncdaaGreatDoorW.PrintWords
open Go.RowKit

/-- A fact that the walk's simp doesn't look into. -/
structure Aside0 (p : Prop) : Prop where mk :: (out : p)
/-- The world is the old one, some orders having been drawn. -/
structure Drawn0 (w w' : World) : Prop where mk :: (out : ∃ n, w' = w.drewN n)
theorem Drawn0.refl (w : World) : Drawn0 w w := ⟨⟨0, rfl⟩⟩
theorem Drawn0.step {w w' : World} (h : Drawn0 w w') (n : Nat) : Drawn0 w (w'.drewN n) := by
  obtain ⟨m, rfl⟩ := h
  exact ⟨⟨m + n, World.drewN_drewN ..⟩⟩
theorem Drawn0.grown {w w' : World} (h : Drawn0 w w') : Grown w w' := by
  obtain ⟨n, rfl⟩ := h
  induction n with
  | zero => exact Grown.refl _
  | succ n ih => rw [← World.drew_drewN]; exact Grown.drew ih
def rd (xs : List Int) (i : Int) : Int := xs.getD i.toNat 0
def bt (s : ByteArray) (i : Int) : Int := if h : i.toNat < s.size then ((s[i.toNat]'h).toNat : Int) else 0
theorem pw_cell_below {w w1 : World} (h : Below w.heap.size w w1) {a : Addr} {v : Value} (hc : w.cell? a = some v) : w1.cell? a = some v := (h.cell (World.block_lt_of_cell? w a hc)).trans hc

def ReadsInt (w : World) (k : IntKind) (A : Option Addr) (n : Nat) (xs : List Int) : Prop :=
  xs.length = n ∧ n ≤ 9223372036854775807 ∧ (0 < n → ∃ ad, A = some ad ∧ ∀ j, j < n → w.cell? (ad.add j) = some (.int k (xs.getD j 0)))
theorem ReadsInt.at_ {w : World} {k : IntKind} {A : Option Addr} {n : Nat} {xs : List Int} (h : ReadsInt w k A n xs) (i : Int) (h0 : 0 ≤ i) (h1 : i < n) : ∃ ad, A = some ad ∧ w.cell? (ad.add i.toNat) = some (.int k (rd xs i)) := by
  obtain ⟨ad, e, hc⟩ := h.2.2 (by omega)
  exact ⟨ad, e, hc _ (by omega)⟩
theorem own_base {w : World} {base : Nat} {e : TypeId} {size n : Nat} {v : Value} {xs : List Value} (h : w.ownsRow base e size v n xs) (k : Nat) (hk : v.ownBlock = some k) : base ≤ k := by
  rcases h.2 with ⟨rfl, _⟩ | ⟨g, cap, cur, rfl, hb, _⟩
  · simp [Value.ownBlock] at hk
  · have : g = k := by simpa [Value.ownBlock] using hk
    omega
theorem own_lt {w : World} {base : Nat} {e : TypeId} {size n : Nat} {v : Value} {xs : List Value} (h : w.ownsRow base e size v n xs) (k : Nat) (hk : v.ownBlock = some k) : k < w.heap.size := by
  rcases h.2 with ⟨rfl, _⟩ | ⟨g, cap, cur, rfl, hb, hh, _⟩
  · simp [Value.ownBlock] at hk
  · have : g = k := by simpa [Value.ownBlock] using hk
    subst this
    exact (Array.getElem?_eq_some_iff.1 hh).1
/-- What is written is another row: this one lives on. -/
theorem own_other {w w1 : World} {base : Nat} {e : TypeId} {size n : Nat} {v : Value} {xs : List Value} (h : w.ownsRow base e size v n xs) {row : Option Nat} (hg : w.grownBy w1 row) (hne : v.ownBlock = none ∨ v.ownBlock ≠ row) : w1.ownsRow base e size v n xs := h.kept hg hne
section
variable {P : Program} {ops : Array Oper} {rest : List Oper} {o : Oper} {a : Act} {Q : Exit → Act → World → Prop}

end

section
variable {P : Program}
end
section
variable {P : Program} {ops : Array Oper} {rest : List Oper} {o : Oper} {a : Act} {Q : Exit → Act → World → Prop}
end

def bytesOf (s : ByteArray) : List Int := s.data.toList.map fun b => (b.toNat : Int)
/-- Where the first answers, the second answers the same. -/
def LeO {α : Type} (a b : Option α) : Prop := ∀ r, a = some r → b = some r
theorem LeO.refl {α : Type} (a : Option α) : LeO a a := fun _ h => h
theorem LeO.none {α : Type} (b : Option α) : LeO Option.none b := fun _ h => by cases h
theorem LeO.trans {α : Type} {a b c : Option α} (h : LeO a b) (k : LeO b c) : LeO a c := fun r hr => k r (h r hr)
theorem LeO.ite {α : Type} {c : Prop} [Decidable c] {a a' b b' : Option α} (h : LeO a a') (k : LeO b b') : LeO (if c then a else b) (if c then a' else b') := by
  split
  · exact h
  · exact k
theorem LeO.bind {α β : Type} {a a' : Option α} {f f' : α → Option β} (h : LeO a a') (k : ∀ x, LeO (f x) (f' x)) : LeO (a.bind f) (a'.bind f') := by
  intro r hr
  obtain ⟨x, hx, hf⟩ := Option.bind_eq_some_iff.1 hr
  exact Option.bind_eq_some_iff.2 ⟨x, h x hx, k x r hf⟩
theorem LeO.map {α β : Type} {a a' : Option α} (f : α → β) (h : LeO a a') : LeO (a.map f) (a'.map f) := by
  intro r hr
  obtain ⟨x, hx, hf⟩ := Option.map_eq_some_iff.1 hr
  exact Option.map_eq_some_iff.2 ⟨x, h x hx, hf⟩
theorem more_rounds {α : Type} {g : Nat → Option α} (h : ∀ k, LeO (g k) (g (k + 1))) (k : Nat) : ∀ j, LeO (g k) (g (k + j))
  | 0 => LeO.refl _
  | j + 1 => (more_rounds h k j).trans (h (k + j))
theorem at_rounds {α : Type} {g : Nat → Option α} (h : ∀ k, LeO (g k) (g (k + 1))) {k k' : Nat} (hk : k ≤ k') {r : α} (hr : g k = some r) : g k' = some r := by
  have := more_rounds h k (k' - k) r hr
  rwa [Nat.add_sub_cancel' hk] at this
def Reps {α : Type} (R : α → List Value → Prop) (size : Nat) (ps : List α) (cs : List Value) : Prop :=
  cs.length = ps.length * size ∧ ∀ j p, ps[j]? = some p → R p ((cs.drop (j * size)).take size)
theorem Reps.none {α : Type} (R : α → List Value → Prop) (size : Nat) : Reps R size [] [] := ⟨by simp, fun j p h => by simp at h⟩
theorem Reps.snoc {α : Type} {R : α → List Value → Prop} {size : Nat} {ps : List α} {cs c : List Value} {p : α} (h : Reps R size ps cs) (hp : R p c) (hc : c.length = size) : Reps R size (ps ++ [p]) (cs ++ c) := by
  refine ⟨by rw [List.length_append, h.1, hc, List.length_append, List.length_singleton, Nat.add_mul, Nat.one_mul], fun j q hq => ?_⟩
  rcases Nat.lt_or_ge j ps.length with hj | hj
  · rw [List.getElem?_append_left hj] at hq
    have h1 : j * size + size ≤ cs.length := by rw [h.1, ← Nat.succ_mul]; exact Nat.mul_le_mul_right _ hj
    have h2 := h.2 j q hq
    rw [List.drop_append_of_le_length (by omega), List.take_append_of_le_length (by rw [List.length_drop]; omega)]
    exact h2
  · have hj' : j = ps.length := by
      have := (List.getElem?_eq_some_iff.1 hq).1
      rw [List.length_append, List.length_singleton] at this
      omega
    subst hj'
    have hq' : p = q := by simpa using hq
    subst hq'
    rw [← h.1, List.drop_left, ← hc, List.take_length]
    exact hp
theorem Reps.imp_ {α : Type} {R R' : α → List Value → Prop} {size : Nat} {ps : List α} {cs : List Value} (h : Reps R size ps cs) (hR : ∀ p c, R p c → R' p c) : Reps R' size ps cs := ⟨h.1, fun j p hj => hR _ _ (h.2 j p hj)⟩

def ReadsRow {α : Type} (R : α → List Value → Prop) (size : Nat) (w : World) (A : Option Addr) (n : Nat) (ps : List α) : Prop :=
  ps.length = n ∧ n ≤ 9223372036854775807 ∧ (0 < n → ∃ ad, A = some ad ∧ ∀ j p, ps[j]? = some p → ∃ c, c.length = size ∧ R p c ∧ ∀ i u, c[i]? = some u → w.cell? (ad.add (j * size + i)) = some u)
theorem ReadsRow.imp_ {α : Type} {R R' : α → List Value → Prop} {size : Nat} {w w1 : World} {A : Option Addr} {n : Nat} {ps : List α} (h : ReadsRow R size w A n ps) (hb : Below w.heap.size w w1) (hR : ∀ p c, R p c → R' p c) : ReadsRow R' size w1 A n ps :=
  ⟨h.1, h.2.1, fun hn => by
    obtain ⟨ad, e, hc⟩ := h.2.2 hn
    refine ⟨ad, e, fun j p hj => ?_⟩
    obtain ⟨c, hs, hr, hcell⟩ := hc j p hj
    exact ⟨c, hs, hR _ _ hr, fun i u hu => pw_cell_below hb (hcell i u hu)⟩⟩
theorem own_reads_row {α : Type} {R : α → List Value → Prop} {w : World} {base n size : Nat} {e : TypeId} {v : Value} {ps : List α} {cs : List Value} (h : w.ownsRow base e size v n cs) (hR : Reps R size ps cs) (hn : ps.length = n) :
    ∃ A c, v = .slice A n c ∧ ReadsRow R size w A n ps := by
  rcases Nat.eq_zero_or_pos n with h0 | h0
  · rcases h.2 with ⟨rfl, rfl⟩ | ⟨g, cap, cur, rfl, _⟩
    · exact ⟨none, 0, rfl, hn, by omega, fun hp => absurd hp (by omega)⟩
    · exact ⟨_, cap, rfl, hn, by omega, fun hp => absurd hp (by omega)⟩
  · obtain ⟨g, cap, rfl, _, _⟩ := h.form h0
    have hm : n ≤ 9223372036854775807 := by
      rcases h.2 with ⟨_, h1⟩ | ⟨g', cap', cur, he, _, _, h1, h2, _⟩
      · omega
      · simp only [maxLen] at h2
        omega
    refine ⟨_, cap, rfl, hn, hm, fun _ => ⟨_, rfl, fun j p hj => ⟨(cs.drop (j * size)).take size, ?_, hR.2 j p hj, fun i u hu => ?_⟩⟩⟩
    · have hjl := (List.getElem?_eq_some_iff.1 hj).1
      have h1 : j * size + size ≤ cs.length := by rw [hR.1, ← Nat.succ_mul]; exact Nat.mul_le_mul_right _ hjl
      rw [List.length_take, List.length_drop]
      omega
    · refine h.cells (g := g) rfl _ u ?_
      rw [List.getElem?_take] at hu
      split at hu
      · rw [List.getElem?_drop] at hu
        exact hu
      · cases hu
section
variable {P : Program} {ops : Array Oper} {rest : List Oper} {o : Oper} {a : Act} {Q : Exit → Act → World → Prop}
/-- append(v, x), x of several cells; behind 'at_builtin'; the goal's world is 'W.alloc' of the variadic's box. -/
theorem print_append_cells {w0 W : World} (base : Nat) (hgd : o.guard = none) (s x : Operand) (t e : TypeId) (z : Value) (size bytes : Nat)
    (ho : o.op = .call { callee := .builtin .append, args := #[s, x], argTypes := #[t, t] })
    (ht : P.underlying t = some (.slice e)) (hinfo : (P.info? e).map (fun i => (i.zero, i.size, i.bytes)) = some (some z, size, bytes)) (hz : z.cells.size = size) (hs0 : 0 < size) (hb0 : 0 < bytes)
    (v : Value) (n : Nat) (xs ys : List Value) (hs : a.eval s = v) (hx : a.eval x = .slice (some ⟨W.heap.size, 0, none⟩) 1 1) (hys : ys.length = size) (h1 : ∀ u ∈ ys, u.oneCell' = true)
    (HO : W.ownsRow base e size v n xs) (HB : Below base w0 W) (hbase : base ≤ W.heap.size) (hl : (n + 1) * bytes ≤ 140737488355328)
    (h : ∀ v1 w1, w1.ownsRow base e size v1 (n + 1) (xs ++ ys) → Below base w0 w1 → W.grownBy w1 v.ownBlock → (v1.ownBlock = v.ownBlock ∨ ∃ b, v1.ownBlock = some b ∧ W.heap.size ≤ b) → wpList P ops Q rest (a.put o.dst v1) w1) :
    wpList P ops Q (o :: rest) a (W.alloc (.cells ys.toArray e)) := by
  obtain ⟨i0, hi, hzz⟩ := Option.map_eq_some_iff.1 hinfo
  simp only [Prod.mk.injEq] at hzz
  obtain ⟨hz0, hz1, hz2⟩ := hzz
  have hlen : n + 1 ≤ 140737488355328 := Nat.le_trans (Nat.le_mul_of_pos_right _ hb0) hl
  refine wpList_append_own_at (W.alloc (.cells ys.toArray e)) hgd s x t ho base e i0 z size bytes ht hi hz0 hz1 hz2 hz hs0 v n xs hs (HO.alloc _) ⟨W.heap.size, 0, none⟩ 1 1 ys hx (by rw [hys]; simp)
    (by simpa using World.news_of_block (cs := ys.toArray) (t := e) (fr := (0, 0)) (heap_alloc_new W (.cells ys.toArray e))) h1 (by simp only [maxLen]; omega) hl (by simp; omega) ?_
  intro v1 w1 hown hg _ hat
  refine h v1 w1 hown ((HB.alloc hbase _).grown hg (by simp; omega) (own_base HO)) (World.grownBy.trans (World.grownBy_alloc W _ _) hg) ?_
  rcases hat with hat | hat
  · exact .inl hat
  · exact .inr ⟨_, hat, by simp⟩
end

theorem own_ne {w : World} {base : Nat} {e t : TypeId} {size n g : Nat} {v : Value} {xs : List Value} {cs : Array Value} (h : w.ownsRow base e size v n xs) (hg : w.heap[g]? = some (.cells cs t (0, 0))) (hne : e ≠ t) : some g ≠ v.ownBlock := by
  rcases h.2 with ⟨rfl, _⟩ | ⟨g', cap, cur, rfl, _, hh, _⟩
  · simp [Value.ownBlock]
  · intro he
    have : g = g' := by simpa [Value.ownBlock] using he
    subst this
    rw [hg] at hh
    injection hh with hh
    injection hh with _ ht
    exact hne ht.symm
theorem blk_lt {w : World} {g : Nat} {o : Obj} (h : w.heap[g]? = some o) : g < w.heap.size := (Array.getElem?_eq_some_iff.1 h).1
def KeepBut (w w' : World) (g : Nat) (row : Option Nat) : Prop := w.heap.size ≤ w'.heap.size ∧ ∀ i, i < w.heap.size → i ≠ g → some i ≠ row → w'.heap[i]? = w.heap[i]?
theorem KeepBut.refl (w : World) (g : Nat) (row : Option Nat) : KeepBut w w g row := ⟨Nat.le_refl _, fun _ _ _ _ => rfl⟩
theorem KeepBut.trans {w w1 w2 : World} {g : Nat} {row row1 : Option Nat} (h : KeepBut w w1 g row) (k : KeepBut w1 w2 g row1) (hr : row1 = row ∨ ∃ b, row1 = some b ∧ w.heap.size ≤ b) : KeepBut w w2 g row :=
  ⟨Nat.le_trans h.1 k.1, fun i hi hg hn => by
    refine (k.2 i (Nat.lt_of_lt_of_le hi h.1) hg ?_).trans (h.2 i hi hg hn)
    rcases hr with rfl | ⟨b, rfl, hb⟩
    · exact hn
    · intro e
      injection e with e
      omega⟩
/-- Another block, another row: they live on. -/
theorem KeepBut.blk {w w1 : World} {g g' : Nat} {row : Option Nat} {o : Obj} (h : KeepBut w w1 g row) (hb : w.heap[g']? = some o) (hg : g' ≠ g) (hr : some g' ≠ row) : w1.heap[g']? = some o := (h.2 g' (blk_lt hb) hg hr).trans hb
theorem KeepBut.own {w w1 : World} {g : Nat} {row : Option Nat} {base : Nat} {e : TypeId} {size n : Nat} {v : Value} {xs : List Value} (h : KeepBut w w1 g row) (ho : w.ownsRow base e size v n xs) (hg : v.ownBlock ≠ some g) (hr : v.ownBlock = none ∨ v.ownBlock ≠ row) : w1.ownsRow base e size v n xs := by
  obtain ⟨h1, h2⟩ := ho
  refine ⟨h1, ?_⟩
  rcases h2 with h2 | ⟨b, cap, cur, rfl, hb, hh, r⟩
  · exact .inl h2
  · refine .inr ⟨b, cap, cur, rfl, hb, h.blk hh ?_ ?_, r⟩
    · intro e
      exact hg (by rw [← e]; rfl)
    · rcases hr with hr | hr
      · simp [Value.ownBlock] at hr
      · exact hr
def Ev {α : Type} (g : Nat → Option α) (r : α) : Prop := ∃ K, ∀ k, K ≤ k → g k = some r
theorem Ev.of {α : Type} {g : Nat → Option α} {r : α} (hg : ∀ k, LeO (g k) (g (k + 1))) {k : Nat} (h : g k = some r) : Ev g r := ⟨k, fun _ hk => at_rounds hg hk h⟩
theorem Ev.bind {α β : Type} {g : Nat → Option α} {f : Nat → α → Option β} {a : α} {r : β} (h : Ev g a) (k : Ev (fun n => f n a) r) : Ev (fun n => (g n).bind (f n)) r := by
  obtain ⟨K, h⟩ := h
  obtain ⟨K', k⟩ := k
  refine ⟨max K K', fun n hn => ?_⟩
  have h1 := h n (by omega)
  have h2 := k n (by omega)
  simp only [h1, Option.bind_some]
  exact h2
/-- One round of a loop. -/
theorem Ev.step {α : Type} {g f : Nat → Option α} {r : α} (h : ∀ k, g (k + 1) = f k) (k : Ev f r) : Ev g r := by
  obtain ⟨K, k⟩ := k
  refine ⟨K + 1, fun n hn => ?_⟩
  obtain ⟨m, rfl⟩ : ∃ m, n = m + 1 := ⟨n - 1, by omega⟩
  rw [h]
  exact k m (by omega)
theorem Ev.congr {α : Type} {g f : Nat → Option α} {r : α} (h : ∀ k, g k = f k) (k : Ev f r) : Ev g r := by
  obtain ⟨K, k⟩ := k
  exact ⟨K, fun n hn => (h n).trans (k n hn)⟩
section
variable {P : Program} {ops : Array Oper} {o : Oper} {a : Act} {Q : Exit → Act → World → Prop} {K : Act → World → Prop}
end
theorem own_weaken {w : World} {base base' : Nat} {e : TypeId} {size n : Nat} {v : Value} {xs : List Value} (h : w.ownsRow base e size v n xs) (hb : base' ≤ base) : w.ownsRow base' e size v n xs := by
  obtain ⟨h1, h2⟩ := h
  refine ⟨h1, ?_⟩
  rcases h2 with h2 | ⟨g, cap, cur, rfl, hg, r⟩
  · exact .inl h2
  · exact .inr ⟨g, cap, cur, rfl, Nat.le_trans hb hg, r⟩
section
variable {α : Type} {enc : α → Value} {d : α}
def rdOf (d : α) (xs : List α) (i : Int) : α := xs.getD i.toNat d
def ReadsOf (enc : α → Value) (d : α) (w : World) (A : Option Addr) (n : Nat) (xs : List α) : Prop :=
  xs.length = n ∧ n ≤ 9223372036854775807 ∧ (0 < n → ∃ ad, A = some ad ∧ ∀ j, j < n → w.cell? (ad.add j) = some (enc (xs.getD j d)))
theorem ReadsOf.at_ {w : World} {A : Option Addr} {n : Nat} {xs : List α} (h : ReadsOf enc d w A n xs) (i : Int) (h0 : 0 ≤ i) (h1 : i < n) : ∃ ad, A = some ad ∧ w.cell? (ad.add i.toNat) = some (enc (rdOf d xs i)) := by
  obtain ⟨ad, e, hc⟩ := h.2.2 (by omega)
  exact ⟨ad, e, hc _ (by omega)⟩
end
section
variable {α : Type} {P : Program} {ops : Array Oper} {rest : List Oper} {o : Oper} {a : Act} {Q : Exit → Act → World → Prop}
end

section
variable {P : Program}
end
theorem own_le {w : World} {base n m c size : Nat} {e : TypeId} {A : Option Addr} {xs : List Value} (h : w.ownsRow base e size (.slice A m c) n xs) : m ≤ c := by
  rcases h.2 with ⟨he, _⟩ | ⟨g, cap, cur, he, _, _, hnc, _⟩
  · injection he with _ h2 h3
    omega
  · injection he with _ h2 h3
    omega
def OwnRow {α : Type} (R : α → List Value → Prop) (e : TypeId) (size : Nat) (w : World) (base : Nat) (v : Value) (ps : List α) : Prop :=
  ∃ inner, w.ownsRow base e size v ps.length inner ∧ Reps R size ps inner
section
variable {α : Type} {R R' : α → List Value → Prop} {e : TypeId} {size : Nat} {w w1 : World} {base : Nat} {v : Value} {ps : List α}
theorem OwnRow.imp_ (h : OwnRow R e size w base v ps) (hR : ∀ p c, R p c → R' p c) : OwnRow R' e size w base v ps := by
  obtain ⟨inner, ho, hr⟩ := h
  exact ⟨inner, ho, hr.imp_ hR⟩
theorem OwnRow.other (h : OwnRow R e size w base v ps) {row : Option Nat} (hg : w.grownBy w1 row) (hne : v.ownBlock = none ∨ v.ownBlock ≠ row) : OwnRow R e size w1 base v ps := by
  obtain ⟨inner, ho, hr⟩ := h
  exact ⟨inner, own_other ho hg hne, hr⟩
theorem OwnRow.keep (h : OwnRow R e size w base v ps) {g : Nat} {t : TypeId} {cells : Array Value} (hb : w.heap[g]? = some (.cells cells t (0, 0))) (ht : e ≠ t) (hk : KeepBut w w1 g none) : OwnRow R e size w1 base v ps := by
  obtain ⟨inner, ho, hr⟩ := h
  exact ⟨inner, hk.own ho (Ne.symm (own_ne ho hb ht)) (by cases v.ownBlock <;> simp), hr⟩
theorem OwnRow.reads (h : OwnRow R e size w base v ps) : ∃ A c, v = .slice A ps.length c ∧ ps.length ≤ c ∧ ReadsRow R size w A ps.length ps := by
  obtain ⟨inner, ho, hr⟩ := h
  obtain ⟨A, c, rfl, hrow⟩ := own_reads_row ho hr rfl
  exact ⟨A, c, rfl, own_le ho, hrow⟩
/-- A literal: the elements' cells one behind the other. -/
theorem OwnRow.lit (W : World) (base : Nat) {inner : List Value} (hr : Reps R size ps inner) (hb : base ≤ W.heap.size) (hm : ps.length ≤ 9223372036854775807) :
    OwnRow R e size (W.alloc (.cells inner.toArray e)) base (.slice (some ⟨W.heap.size, 0, none⟩) ps.length ps.length) ps := by
  have h := World.ownsRow_lit (base := base) (e := e) (size := size) W inner.toArray ps.length hb (by simpa [maxLen] using hm) (by simpa using hr.1)
  exact ⟨inner, by simpa using h, hr⟩
end
section
variable {P : Program} {ops : Array Oper} {rest : List Oper} {o : Oper} {a : Act} {Q : Exit → Act → World → Prop} {α : Type} {R : α → List Value → Prop}
/-- append(v, x): x's cells are cs. R is that of the world AHEAD; move it over hg ('OwnRow.imp_'). -/
theorem OwnRow.append {w0 W : World} (base : Nat) (hgd : o.guard = none) (s x : Operand) (t e : TypeId) (z : Value) (size bytes : Nat)
    (ho : o.op = .call { callee := .builtin .append, args := #[s, x], argTypes := #[t, t] })
    (ht : P.underlying t = some (.slice e)) (hinfo : (P.info? e).map (fun i => (i.zero, i.size, i.bytes)) = some (some z, size, bytes)) (hz : z.cells.size = size) (hs0 : 0 < size) (hb0 : 0 < bytes)
    (v : Value) (ps : List α) (p : α) (cs : List Value) (hs : a.eval s = v) (hx : a.eval x = .slice (some ⟨W.heap.size, 0, none⟩) 1 1) (hp : R p cs) (hcs : cs.length = size) (h1 : ∀ u ∈ cs, u.oneCell' = true)
    (HO : OwnRow R e size W base v ps) (HB : Below base w0 W) (hbase : base ≤ W.heap.size) (hl : (ps.length + 1) * bytes ≤ 140737488355328)
    (h : ∀ v1 w1, OwnRow R e size w1 base v1 (ps ++ [p]) → Below base w0 w1 → W.grownBy w1 v.ownBlock → (v1.ownBlock = v.ownBlock ∨ ∃ b, v1.ownBlock = some b ∧ W.heap.size ≤ b) → wpList P ops Q rest (a.put o.dst v1) w1) :
    wpList P ops Q (o :: rest) a (W.alloc (.cells cs.toArray e)) := by
  obtain ⟨inner, hown, hr⟩ := HO
  refine print_append_cells base hgd s x t e z size bytes ho ht hinfo hz hs0 hb0 v ps.length inner cs hs hx hcs h1 hown HB hbase hl ?_
  intro v1 w1 hown1 hb1 hg1 hat1
  exact h v1 w1 ⟨inner ++ cs, by rw [List.length_append, List.length_singleton]; exact hown1, hr.snoc hp hcs⟩ hb1 hg1 hat1
end
section
variable {P : Program} {ops : Array Oper} {o : Oper} {a : Act} {Q : Exit → Act → World → Prop} {K : Act → World → Prop} {α : Type} {R : α → List Value → Prop}
end
section
variable {α : Type} {P : Program}
theorem ReadsOf.len_ {enc : α → Value} {d : α} {w : World} {A : Option Addr} {n : Nat} {xs : List α} (h : ReadsOf enc d w A n xs) : ReadsOf enc d w A xs.length xs := by rw [h.1]; exact h
end

section
variable {P : Program} {ops : Array Oper} {rest : List Oper} {o : Oper} {a : Act} {Q : Exit → Act → World → Prop}
end
/-- ok: which blocks the rows inside may be ('not the row that is being written'). -/
structure Kd (α : Type) where
  sz : Nat
  E : List Nat
  K : World → α → List Value → Prop
  M : World → Nat → (Nat → Prop) → α → List Value → Prop
  K_len : ∀ {w x cs}, K w x cs → cs.length = sz
  K_one : ∀ {w x cs}, K w x cs → ∀ u ∈ cs, u.oneCell' = true
  K_below : ∀ {w w1 : World} {x cs}, Below w.heap.size w w1 → K w x cs → K w1 x cs
  K_of_M : ∀ {w base ok x cs}, M w base ok x cs → K w x cs
  M_mono : ∀ {w base ok ok' x cs}, (∀ k, ok k → ok' k) → M w base ok x cs → M w base ok' x cs
  M_bound : ∀ {w : World} {base ok x cs}, M w base ok x cs → M w base (fun k => ok k ∧ base ≤ k ∧ k < w.heap.size ∧ ∃ q, q ∈ E ∧ ∃ cells, w.heap[k]? = some (.cells cells q (0, 0))) x cs
  M_move : ∀ {w w1 : World} {base ok x cs}, (∀ k, ok k → w1.heap[k]? = w.heap[k]?) → M w base ok x cs → M w1 base ok x cs
  M_lower : ∀ {w base base' ok x cs}, base' ≤ base → M w base ok x cs → M w base' ok x cs

theorem own_move {w w1 : World} {base : Nat} {e : TypeId} {size n : Nat} {v : Value} {xs : List Value} (h : w.ownsRow base e size v n xs) (hm : ∀ k, v.ownBlock = some k → w1.heap[k]? = w.heap[k]?) : w1.ownsRow base e size v n xs := by
  obtain ⟨h1, h2⟩ := h
  refine ⟨h1, ?_⟩
  rcases h2 with h2 | ⟨g, cap, cur, rfl, hg, hh, r⟩
  · exact .inl h2
  · exact .inr ⟨g, cap, cur, rfl, hg, (hm g (by simp [Value.ownBlock])).trans hh, r⟩
theorem own_typed {w : World} {base : Nat} {e : TypeId} {size n : Nat} {v : Value} {xs : List Value} (h : w.ownsRow base e size v n xs) (k : Nat) (hk : v.ownBlock = some k) : ∃ cells, w.heap[k]? = some (.cells cells e (0, 0)) := by
  rcases h.2 with ⟨rfl, _⟩ | ⟨g, cap, cur, rfl, hg, hh, r⟩
  · simp [Value.ownBlock] at hk
  · have : g = k := by simpa [Value.ownBlock] using hk
    subst this
    exact ⟨cur, hh⟩

namespace Kd
/-- A row of elements that is read. -/
def C {α : Type} (d : Kd α) (w : World) (A : Option Addr) (n : Nat) (xs : List α) : Prop := ReadsRow (d.K w) d.sz w A n xs
/-- A row of elements (type e) of the call's own; the elements' rows are not this one. -/
def R {α : Type} (d : Kd α) (e : Nat) (w : World) (base : Nat) (ok : Nat → Prop) (v : Value) (xs : List α) : Prop :=
  (∀ k, v.ownBlock = some k → ok k) ∧ OwnRow (d.M w base (fun k => ok k ∧ some k ≠ v.ownBlock)) e d.sz w base v xs
section
variable {α : Type} {d : Kd α} {e : Nat} {w w1 : World} {base : Nat} {ok ok' : Nat → Prop} {v : Value} {xs : List α}
theorem C_below {A : Option Addr} {n : Nat} (h : d.C w A n xs) (hb : Below w.heap.size w w1) : d.C w1 A n xs := ReadsRow.imp_ h hb (fun _ _ hp => d.K_below hb hp)
theorem R_mono (h : d.R e w base ok v xs) (hok : ∀ k, ok k → ok' k) : d.R e w base ok' v xs := ⟨fun k hk => hok k (h.1 k hk), h.2.imp_ (fun _ _ hp => d.M_mono (fun k hk => ⟨hok k hk.1, hk.2⟩) hp)⟩
theorem R_bound (h : d.R e w base ok v xs) : d.R e w base (fun k => ok k ∧ base ≤ k ∧ k < w.heap.size ∧ ∃ q, q ∈ e :: d.E ∧ ∃ cells, w.heap[k]? = some (.cells cells q (0, 0))) v xs := by
  obtain ⟨h0, inner, ho, hr⟩ := h
  refine ⟨fun k hk => ?_, inner, ho, hr.imp_ (fun _ _ hp => d.M_mono (fun k hk => ?_) (d.M_bound hp))⟩
  · obtain ⟨cells, hc⟩ := own_typed ho k hk
    exact ⟨h0 k hk, own_base ho k hk, own_lt ho k hk, e, List.mem_cons_self, cells, hc⟩
  · obtain ⟨⟨h1, h2⟩, h3, h4, q, hq, hc⟩ := hk
    exact ⟨⟨h1, h3, h4, q, List.mem_cons_of_mem _ hq, hc⟩, h2⟩
theorem R_move (h : d.R e w base ok v xs) (hm : ∀ k, ok k → w1.heap[k]? = w.heap[k]?) : d.R e w1 base ok v xs := by
  obtain ⟨h0, inner, ho, hr⟩ := h
  exact ⟨h0, inner, own_move ho (fun k hk => hm k (h0 k hk)), hr.imp_ (fun _ _ hp => d.M_move (fun k hk => hm k hk.1) hp)⟩
theorem R_lower {base' : Nat} (h : d.R e w base ok v xs) (hb : base' ≤ base) : d.R e w base' ok v xs := by
  obtain ⟨h0, inner, ho, hr⟩ := h
  exact ⟨h0, inner, own_weaken ho hb, hr.imp_ (fun _ _ hp => d.M_lower hb hp)⟩
theorem R_reads (h : d.R e w base ok v xs) : ∃ A c, v = .slice A xs.length c ∧ xs.length ≤ c ∧ d.C w A xs.length xs := by
  obtain ⟨A, c, he, hl, hr⟩ := OwnRow.reads h.2
  exact ⟨A, c, he, hl, hr.imp_ (Below.refl _ _) (fun _ _ hp => d.K_of_M hp)⟩
end

def scalar {α : Type} (enc : α → Value) (h1 : ∀ x, (enc x).oneCell' = true) : Kd α where
  sz := 1
  E := []
  K := fun _ x cs => cs = [enc x]
  M := fun _ _ _ x cs => cs = [enc x]
  K_len := fun h => by rw [h]; rfl
  K_one := fun h u hu => by
    rw [h] at hu
    rw [List.mem_singleton.1 hu]
    exact h1 _
  K_below := fun _ h => h
  K_of_M := fun h => h
  M_mono := fun _ h => h
  M_bound := fun h => h
  M_move := fun _ h => h
  M_lower := fun _ h => h
def int (k : IntKind) : Kd Int := scalar (Value.int k) (fun _ => rfl)
def bool : Kd Bool := scalar Value.bool (fun _ => rfl)
def string : Kd ByteArray := scalar Value.string (fun _ => rfl)
def slice {α : Type} (e : Nat) (d : Kd α) : Kd (List α) where
  sz := 1
  E := e :: d.E
  K := fun w xs cs => ∃ A c, cs = [.slice A xs.length c] ∧ xs.length ≤ c ∧ d.C w A xs.length xs
  M := fun w base ok xs cs => ∃ v, cs = [v] ∧ d.R e w base ok v xs
  K_len := by
    rintro w x cs ⟨A, c, rfl, _⟩
    rfl
  K_one := by
    rintro w x cs ⟨A, c, rfl, _⟩ u hu
    rw [List.mem_singleton.1 hu]
    rfl
  K_below := by
    rintro w w1 x cs hb ⟨A, c, rfl, hl, hr⟩
    exact ⟨A, c, rfl, hl, C_below hr hb⟩
  K_of_M := by
    rintro w base ok x cs ⟨v, rfl, h⟩
    obtain ⟨A, c, rfl, hl, hr⟩ := R_reads h
    exact ⟨A, c, rfl, hl, hr⟩
  M_mono := by
    rintro w base ok ok' x cs hok ⟨v, rfl, h⟩
    exact ⟨v, rfl, R_mono h hok⟩
  M_bound := by
    rintro w base ok x cs ⟨v, rfl, h⟩
    exact ⟨v, rfl, R_bound h⟩
  M_move := by
    rintro w w1 base ok x cs hm ⟨v, rfl, h⟩
    exact ⟨v, rfl, R_move h hm⟩
  M_lower := by
    rintro w base base' ok x cs hb ⟨v, rfl, h⟩
    exact ⟨v, rfl, R_lower h hb⟩
/-- Two in line. -/
def pair {α β : Type} (a : Kd α) (b : Kd β) : Kd (α × β) where
  sz := a.sz + b.sz
  E := a.E ++ b.E
  K := fun w x cs => ∃ c0 c1, cs = c0 ++ c1 ∧ a.K w x.1 c0 ∧ b.K w x.2 c1
  M := fun w base ok x cs => ∃ c0 c1, cs = c0 ++ c1 ∧ a.M w base ok x.1 c0 ∧ b.M w base ok x.2 c1
  K_len := by
    rintro w x cs ⟨c0, c1, rfl, h0, h1⟩
    rw [List.length_append, a.K_len h0, b.K_len h1]
  K_one := by
    rintro w x cs ⟨c0, c1, rfl, h0, h1⟩ u hu
    rcases List.mem_append.1 hu with hu | hu
    · exact a.K_one h0 u hu
    · exact b.K_one h1 u hu
  K_below := by
    rintro w w1 x cs hb ⟨c0, c1, rfl, h0, h1⟩
    exact ⟨c0, c1, rfl, a.K_below hb h0, b.K_below hb h1⟩
  K_of_M := by
    rintro w base ok x cs ⟨c0, c1, rfl, h0, h1⟩
    exact ⟨c0, c1, rfl, a.K_of_M h0, b.K_of_M h1⟩
  M_mono := by
    rintro w base ok ok' x cs hok ⟨c0, c1, rfl, h0, h1⟩
    exact ⟨c0, c1, rfl, a.M_mono hok h0, b.M_mono hok h1⟩
  M_bound := by
    rintro w base ok x cs ⟨c0, c1, rfl, h0, h1⟩
    refine ⟨c0, c1, rfl, a.M_mono ?_ (a.M_bound h0), b.M_mono ?_ (b.M_bound h1)⟩
    · rintro k ⟨h2, h3, h4, q, hq, hc⟩
      exact ⟨h2, h3, h4, q, List.mem_append_left _ hq, hc⟩
    · rintro k ⟨h2, h3, h4, q, hq, hc⟩
      exact ⟨h2, h3, h4, q, List.mem_append_right _ hq, hc⟩
  M_move := by
    rintro w w1 base ok x cs hm ⟨c0, c1, rfl, h0, h1⟩
    exact ⟨c0, c1, rfl, a.M_move hm h0, b.M_move hm h1⟩
  M_lower := by
    rintro w base base' ok x cs hb ⟨c0, c1, rfl, h0, h1⟩
    exact ⟨c0, c1, rfl, a.M_lower hb h0, b.M_lower hb h1⟩
/-- Nothing is of this kind: where the nesting's depth is used up. -/
def bot {α : Type} (sz : Nat) (E : List Nat) : Kd α where
  sz := sz
  E := E
  K := fun _ _ _ => False
  M := fun _ _ _ _ _ => False
  K_len := fun h => h.elim
  K_one := fun h => h.elim
  K_below := fun _ h => h
  K_of_M := fun h => h
  M_mono := fun _ h => h
  M_bound := fun h => h
  M_move := fun _ h => h
  M_lower := fun _ h => h
/-- A type nested in itself: nested at most n deep .. -/
def upto {α : Type} (F : Kd α → Kd α) (sz : Nat) (E : List Nat) : Nat → Kd α
  | 0 => bot sz E
  | n + 1 => F (upto F sz E n)
section
variable {P : Program} {ops : Array Oper} {rest : List Oper} {o : Oper} {a : Act} {Q : Exit → Act → World → Prop} {α : Type}
end
section
variable {P : Program} {ops : Array Oper} {o : Oper} {a : Act} {Q : Exit → Act → World → Prop} {Kc : Act → World → Prop} {α : Type}
end
end Kd
namespace Kd
section
variable {α : Type} {F : Kd α → Kd α} {sz : Nat} {E : List Nat} {hs : ∀ n, (upto F sz E n).sz = sz} {hE : ∀ n q, q ∈ (upto F sz E n).E → q ∈ E}
end
end Kd
namespace Kd
end Kd
namespace Kd
section
variable {α β : Type} {d : Kd α} {d' : Kd β} {e e' : Nat} {w w1 W : World} {base b b' : Nat} {ok ok' okv oku : Nat → Prop} {v u : Value} {xs : List α} {ys : List β}
end
section
variable {w W : World} {A : Option Addr} {n : Nat}
variable {α : Type} {enc : α → Value} {h1 : ∀ x, (enc x).oneCell' = true} {e base g cap : Nat} {ok : Nat → Prop} {xs : List α}
end

section
variable {P : Program} {ops : Array Oper} {rest : List Oper} {o : Oper} {a : Act} {Q : Exit → Act → World → Prop}
variable {α : Type}
end
end Kd
section
variable {P : Program}
end
/-- A row of one's own that may begin inside its block. -/
def QRow (w : World) (base : Nat) (e : TypeId) (size : Nat) (v : Value) (n : Nat) (xs : List Value) : Prop :=
  xs.length = n * size ∧
  ((n = 0 ∧ ∃ A, v = .slice A 0 0 ∧ ∀ a, A = some a → base ≤ a.block ∧ ∃ cur, w.heap[a.block]? = some (.cells cur e (0, 0))) ∨
   ∃ g off cap cur, v = .slice (some ⟨g, off * size, none⟩) n cap ∧ base ≤ g ∧ w.heap[g]? = some (.cells cur e (0, 0)) ∧ n ≤ cap ∧ off + cap ≤ maxLen ∧ cur.size = (off + cap) * size ∧ (cur.toList.drop (off * size)).take (n * size) = xs)
section
variable {w w1 : World} {base n size : Nat} {e : TypeId} {v : Value} {xs : List Value}
end
section
variable {P : Program}
end
namespace Kd
theorem reps_take {α : Type} {R : α → List Value → Prop} {size m : Nat} {ps : List α} {cs : List Value} (h : Reps R size ps cs) (hm : m ≤ ps.length) : Reps R size (ps.take m) (cs.take (m * size)) := by
  refine ⟨by rw [List.length_take, List.length_take, h.1, Nat.min_eq_left hm, Nat.min_eq_left (Nat.mul_le_mul_right _ hm)], fun j p hj => ?_⟩
  rw [List.getElem?_take] at hj
  split at hj
  · rename_i hjm
    have := h.2 j p hj
    have hle : j * size + size ≤ m * size := by rw [← Nat.succ_mul]; exact Nat.mul_le_mul_right _ hjm
    rw [List.drop_take, List.take_take, Nat.min_eq_left (by omega)]
    exact this
  · cases hj
theorem reps_drop {α : Type} {R : α → List Value → Prop} {size m : Nat} {ps : List α} {cs : List Value} (h : Reps R size ps cs) : Reps R size (ps.drop m) (cs.drop (m * size)) := by
  refine ⟨by rw [List.length_drop, List.length_drop, h.1, Nat.sub_mul], fun j p hj => ?_⟩
  rw [List.getElem?_drop] at hj
  have := h.2 (m + j) p hj
  rw [List.drop_drop, ← Nat.add_mul]
  exact this
def Q {α : Type} (d : Kd α) (e : Nat) (w : World) (base : Nat) (ok : Nat → Prop) (v : Value) (xs : List α) : Prop :=
  (∀ k, v.ownBlock = some k → ok k) ∧ ∃ inner, QRow w base e d.sz v xs.length inner ∧ Reps (d.M w base (fun k => ok k ∧ some k ≠ v.ownBlock)) d.sz xs inner
section
variable {α : Type} {d : Kd α} {e : Nat} {w w1 W : World} {base : Nat} {ok ok' : Nat → Prop} {v : Value} {xs : List α}
end
section
variable {P : Program} {ops : Array Oper} {rest : List Oper} {o : Oper} {a : Act} {Q' : Exit → Act → World → Prop} {Kc : Act → World → Prop} {α : Type}
end
end Kd
namespace Kd
section
variable {α : Type} {d : Kd α} {e e' : Nat} {w w1 W : World} {base : Nat} {ok : Nat → Prop} {u v : Value} {xs : List α}
end
end Kd
namespace Kd
section
variable {α : Type} {d : Kd α} {e base g n cap : Nat} {ok okp : Nat → Prop} {W : World} {xs : List α}
end
end Kd
namespace Kd
section
variable {α : Type} {F : Kd α → Kd α} {sz : Nat} {E : List Nat} {hs : ∀ n, (upto F sz E n).sz = sz} {hE : ∀ n q, q ∈ (upto F sz E n).E → q ∈ E}
end
end Kd
namespace Kd
theorem reps_append {α : Type} {R : α → List Value → Prop} {size : Nat} {ps qs : List α} {cs ds : List Value} (h : Reps R size ps cs) (h' : Reps R size qs ds) : Reps R size (ps ++ qs) (cs ++ ds) := by
  refine ⟨by rw [List.length_append, List.length_append, h.1, h'.1, Nat.add_mul], fun j p hj => ?_⟩
  rcases Nat.lt_or_ge j ps.length with hlt | hge
  · rw [List.getElem?_append_left hlt] at hj
    have hle : j * size + size ≤ cs.length := by rw [h.1, ← Nat.succ_mul]; exact Nat.mul_le_mul_right _ hlt
    rw [List.drop_append_of_le_length (by omega), List.take_append_of_le_length (by rw [List.length_drop]; omega)]
    exact h.2 j p hj
  · rw [List.getElem?_append_right hge] at hj
    have h2 := h'.2 (j - ps.length) p hj
    have hle : ps.length * size ≤ j * size := Nat.mul_le_mul_right _ hge
    rw [List.drop_append, List.drop_eq_nil_of_le (by rw [h.1]; exact hle), List.nil_append, h.1, ← Nat.sub_mul]
    exact h2
section
variable {P : Program} {ops : Array Oper} {rest : List Oper} {o : Oper} {a : Act} {Q : Exit → Act → World → Prop} {α : Type}
end
end Kd
namespace Kd
section
variable {P : Program} {ops : Array Oper} {rest : List Oper} {o : Oper} {a : Act} {Q : Exit → Act → World → Prop} {α : Type}
end
end Kd
namespace Kd
section
variable {α : Type} {k : Kd α} {w : World} {A : Option Addr} {xs : List α} {m c : Nat}
end
end Kd
section
variable {P : Program}
end
theorem ReadsInt.nil (W : World) (k : IntKind) : ReadsInt W k none ([] : List Int).length [] := ⟨rfl, by simp, fun h => absurd h (Nat.lt_irrefl 0)⟩
theorem ReadsInt.drewN {W : World} {k : IntKind} {A : Option Addr} {n : Nat} {xs : List Int} (h : ReadsInt W k A n xs) (m : Nat) : ReadsInt (W.drewN m) k A n xs := h
theorem keep_cell {w W : World} {g : Nat} (h : KeepBut w W g none) {a : Addr} {v : Value} (hc : w.cell? a = some v) (hne : a.block ≠ g) : W.cell? a = some v := by
  have := h.2 a.block (World.block_lt_of_cell? w a hc) hne (by simp)
  simpa [World.cell?, this] using hc
theorem add_block (a : Addr) (i : Nat) : (a.add i).block = a.block := by unfold Addr.add; split <;> rfl
theorem ReadsOf.nil {α : Type} (enc : α → Value) (d : α) (W : World) : ReadsOf enc d W none ([] : List α).length [] := ⟨rfl, by simp, fun h => absurd h (Nat.lt_irrefl 0)⟩
theorem ReadsOf.drewN {α : Type} {enc : α → Value} {d : α} {W : World} {A : Option Addr} {n : Nat} {xs : List α} (h : ReadsOf enc d W A n xs) (m : Nat) : ReadsOf enc d (W.drewN m) A n xs := h
theorem ReadsInt.keep {w W : World} {k : IntKind} {A : Option Addr} {n g : Nat} {xs : List Int} (h : ReadsInt w k A n xs) (hk : KeepBut w W g none) (hf : ∀ ad, A = some ad → 0 < n → ad.block ≠ g) : ReadsInt W k A n xs :=
  ⟨h.1, h.2.1, fun hn => by
    obtain ⟨ad, e, hc⟩ := h.2.2 hn
    exact ⟨ad, e, fun j hj => keep_cell hk (hc j hj) (by rw [add_block]; exact hf ad e hn)⟩⟩
theorem ReadsOf.keep {α : Type} {enc : α → Value} {d : α} {w W : World} {A : Option Addr} {n g : Nat} {xs : List α} (h : ReadsOf enc d w A n xs) (hk : KeepBut w W g none) (hf : ∀ ad, A = some ad → 0 < n → ad.block ≠ g) : ReadsOf enc d W A n xs :=
  ⟨h.1, h.2.1, fun hn => by
    obtain ⟨ad, e, hc⟩ := h.2.2 hn
    exact ⟨ad, e, fun j hj => keep_cell hk (hc j hj) (by rw [add_block]; exact hf ad e hn)⟩⟩
namespace Kd
section
variable {α β : Type} {d : Kd α} {d' : Kd β} {e e' base base' n : Nat} {ok ok' : Nat → Prop} {w W w1 W1 : World} {v u : Value} {xs : List α} {ys : List β} {A : Option Addr} {c : Nat}
end
section
variable {α : Type} {enc : α → Value} {h1 : ∀ x, (enc x).oneCell' = true} {w W : World} {A : Option Addr} {n g : Nat} {xs : List α}
end
end Kd
namespace Kd
section
variable {α : Type} {d : Kd α} {e base g : Nat} {ok : Nat → Prop} {w w1 : World} {v : Value} {xs : List α} {o : Obj}
end
end Kd
section
variable {P : Program} {ops : Array Oper} {rest : List Oper} {o : Oper} {a : Act} {Q : Exit → Act → World → Prop}
end
namespace Kd
section
variable {α : Type} {enc : α → Value} {h1 : ∀ x, (enc x).oneCell' = true} {e base g n cap : Nat} {ok : Nat → Prop} {W : World} {xs : List α}
end
end Kd
section
variable {P : Program} {ops : Array Oper} {rest : List Oper} {o : Oper} {a : Act} {Q : Exit → Act → World → Prop}
end
namespace Kd
section
variable {α : Type} {enc : α → Value} {h1 : ∀ x, (enc x).oneCell' = true} {e base g n cap : Nat} {ok : Nat → Prop} {W : World} {xs : List α}
end
end Kd
section
variable {P : Program} {ops : Array Oper} {rest : List Oper} {o : Oper} {a : Act} {Q : Exit → Act → World → Prop} {W : World}
end
section
variable {P : Program} {ops : Array Oper} {o : Oper} {a : Act} {Q : Exit → Act → World → Prop} {Kc : Act → World → Prop}
namespace Kd
variable {α : Type}
end Kd
end
section
variable {P : Program} {tmps : Array Value} {w : World}
end
namespace Kd
section
variable {P : Program} {α : Type}
end
section
variable {P : Program} {ops : Array Oper} {rest : List Oper} {o : Oper} {a : Act} {Q : Exit → Act → World → Prop} {Kc : Act → World → Prop} {α : Type}
end
end Kd

end Go.Proofs.YtdfgfjnpllncdaaGreatDoorW.PrintWords

namespace Go.Proofs.YtdfgfjnpllncdaaGreatDoor
open Go.RowKit Go.Proofs.YtdfgfjnpllncdaaGreatDoorW.PrintWords

theorem addr_add (ad : Addr) (i j : Nat) : (ad.add i).add j = ad.add (i + j) := by
  unfold Addr.add
  by_cases hi : i = 0 <;> by_cases hj : j = 0 <;> simp [hi, hj, Nat.add_assoc]
theorem below_alloc' {w W : World} (h : Below w.heap.size w W) (o : Obj) : Below w.heap.size w (W.alloc o) := h.alloc h.size o
theorem ba_get (s : ByteArray) (k : Nat) (h : k < s.size) : s.data.toList[k]'(by simpa using h) = s[k] := rfl

section
variable {P : Program} {ops : Array Oper} {rest : List Oper} {o : Oper} {a : Act} {Q : Exit → Act → World → Prop}
end

end Go.Proofs.YtdfgfjnpllncdaaGreatDoor

set_option linter.constructorNameAsVariable false
namespace Go.Proofs.YtdfgfjnpllncdaaGreatDoor
open Go.RowKit Go.Proofs.YtdfgfjnpllncdaaGreatDoorW.PrintWords
theorem greater_two (k k' : IntKind) (m n : Int) : Builtin.max2 (.int k m) (.int k' n) = pure (.int k (if m < n then n else m)) := by
  unfold Builtin.max2
  rfl
theorem lesser_two (k k' : IntKind) (m n : Int) : Builtin.min2 (.int k m) (.int k' n) = pure (.int k (if n < m then n else m)) := by
  unfold Builtin.min2
  rfl
theorem greater_of (ts : Array TypeId) (t : TypeId) (u v : Value) : Builtin.max_ ts t #[u, v] = (do let s ← Builtin.max2 u v; pure s) := by
  simp [Builtin.max_]
theorem lesser_of (ts : Array TypeId) (t : TypeId) (u v : Value) : Builtin.min_ ts t #[u, v] = (do let s ← Builtin.min2 u v; pure s) := by
  simp [Builtin.min_]
attribute [local go_sem] greater_two lesser_two greater_of lesser_of

structure Pt where
  x : Int
  y : Int
  deriving DecidableEq
def Pt.v (p : Pt) : Value := .agg #[.int .i64 p.x, .int .i64 p.y]
end Go.Proofs.YtdfgfjnpllncdaaGreatDoor

set_option linter.constructorNameAsVariable false
namespace Go.Proofs.YtdfgfjnpllncdaaGreatDoor
open Go.RowKit Go.Proofs.YtdfgfjnpllncdaaGreatDoorW.PrintWords

theorem wrap64_id {n : Int} (h0 : -9223372036854775808 ≤ n) (h1 : n ≤ 9223372036854775807) : wrap64 n = n := by unfold wrap64; omega
end Go.Proofs.YtdfgfjnpllncdaaGreatDoor

set_option linter.constructorNameAsVariable false
namespace Go.Proofs.YtdfgfjnpllncdaaGreatDoor
open Go.RowKit Go.Proofs.YtdfgfjnpllncdaaGreatDoorW.PrintWords

theorem below_call {w w0 w1 : World} (h : Below w.heap.size w w0) (h1 : Below w0.heap.size w0 w1) : Below w.heap.size w w1 := h.trans (h1.mono h.size)
end Go.Proofs.YtdfgfjnpllncdaaGreatDoor

set_option linter.constructorNameAsVariable false
namespace Go.Proofs.YtdfgfjnpllncdaaGreatDoor
open Go.RowKit Go.Proofs.YtdfgfjnpllncdaaGreatDoorW.PrintWords

theorem bool_ret {a b : Bool} (h : a = b) : Ending.returned (.bool a) = .returned (.bool b) := by rw [h]
end Go.Proofs.YtdfgfjnpllncdaaGreatDoor

set_option linter.constructorNameAsVariable false
namespace Go.Proofs.YtdfgfjnpllncdaaGreatDoor
def nameC (z : Bool) (n : Nat) : Bool := (decide (97 ≤ n) && decide (n ≤ 122)) || (z && ((n == 95) || (decide (48 ≤ n) && decide (n ≤ 57))))
def bt (s : ByteArray) (j : Nat) : Nat := (s.data.toList.getD j 0).toNat
theorem bt_get {s : ByteArray} {j : Nat} (h : j < s.size) : bt s j = s[j].toNat := by
  unfold bt
  rw [List.getD_eq_getElem?_getD, List.getElem?_eq_getElem (by simpa using h)]
  rfl
def nameUpto (s : ByteArray) (k : Nat) : Bool := (List.range k).all fun j => nameC (decide (0 < j)) (bt s j)
def nameOk (s : ByteArray) : Bool := nameUpto s s.size && (decide (1 ≤ s.size) && decide (s.size ≤ 12))
theorem nameUpto_no {s : ByteArray} {i n : Nat} (hi : i < n) (h : nameC (decide (0 < i)) (bt s i) = false) : nameUpto s n = false := by
  unfold nameUpto
  rw [Bool.eq_false_iff]
  intro e
  rw [List.all_eq_true] at e
  have := e i (List.mem_range.2 hi)
  rw [h] at this
  cases this
theorem nameUpto_succ {s : ByteArray} {i : Nat} (h : nameUpto s i = true) (h2 : nameC (decide (0 < i)) (bt s i) = true) : nameUpto s (i + 1) = true := by
  unfold nameUpto at *
  rw [List.range_succ, List.all_append, h, Bool.true_and]
  simp only [List.all_cons, List.all_nil, Bool.and_true]
  exact h2
theorem nameC_good {z : Bool} {n : Nat} (h : nameC z n = true) : (97 ≤ n ∧ n ≤ 122) ∨ (z = true ∧ n = 95) ∨ (z = true ∧ 48 ≤ n ∧ n ≤ 57) := by
  unfold nameC at h
  cases z
  · simp at h; simp; omega
  · simp at h; simp; omega
theorem nameC_bad {z : Bool} {n : Nat} (h : nameC z n = false) : (z = false ∧ n < 97) ∨ (z = false ∧ 122 < n) ∨ (z = true ∧ n < 97 ∧ n ≠ 95 ∧ n < 48) ∨ (z = true ∧ n < 97 ∧ n ≠ 95 ∧ 57 < n) ∨ (z = true ∧ 122 < n) := by
  unfold nameC at h
  cases z
  · simp at h; simp; omega
  · simp at h; simp; omega
end Go.Proofs.YtdfgfjnpllncdaaGreatDoor

set_option linter.constructorNameAsVariable false
namespace Go.Proofs.YtdfgfjnpllncdaaGreatDoor
open Go.RowKit Go.Proofs.YtdfgfjnpllncdaaGreatDoorW.PrintWords

set_option maxHeartbeats 4000000 in
set_option maxRecDepth 100000 in
theorem name_any (s : ByteArray) (w : World) (hm : s.size ≤ 9223372036854775807) :
    Calls Tryz.prog 62 #[.string s] w fun e w' => e = .returned (.bool (nameOk s)) ∧ w = w' := by
  obtain ⟨R, hR⟩ : ∃ R, R = nameOk s := ⟨_, rfl⟩
  rw [← hR]
  unfold nameOk at hR
  have HD := Aside0.mk hR
  clear hR
  go_enter Tryz.func62, Tryz.ntmps62
  go_wp2
  go_loop [7] (fun i => ∃ k : Nat, k ≤ s.size ∧ i = .int .i64 k ∧ Aside0 (nameUpto s k = true)) (fun i => s.size - (intOf i).toNat)
  case atStart => exact ⟨0, Nat.zero_le _, rfl, ⟨rfl⟩⟩
  case round =>
    obtain ⟨k, hk, rfl, HF⟩ := hrel
    by_cases hlt : k < s.size
    · have hd : decide ((k : Int) < s.size) = true := by simp; omega
      have HB := Aside0.mk (bt_get hlt)
      have HN := Aside0.mk (fun e => nameUpto_no (s := s) hlt e)
      have HT := Aside0.mk (fun e => nameUpto_succ (s := s) HF.out e)
      rw [HB.out] at HN HT
      have hu := s[k].toNat_lt
      cases hc : nameC (decide (0 < k)) s[k].toNat
      · have HN2 := Aside0.mk (HN.out hc)
        have hb := nameC_bad hc
        clear hc HN HT HB
        have hq : (¬ 0 < k ∧ decide ((97 : Int) ≤ (s[k].toNat : Int)) = false) ∨ (¬ 0 < k ∧ decide ((97 : Int) ≤ (s[k].toNat : Int)) = true ∧ decide ((s[k].toNat : Int) ≤ 122) = false)
            ∨ (0 < k ∧ decide ((97 : Int) ≤ (s[k].toNat : Int)) = false ∧ ((s[k].toNat : Int) == 95) = false ∧ decide ((48 : Int) ≤ (s[k].toNat : Int)) = false)
            ∨ (0 < k ∧ decide ((97 : Int) ≤ (s[k].toNat : Int)) = false ∧ ((s[k].toNat : Int) == 95) = false ∧ decide ((48 : Int) ≤ (s[k].toNat : Int)) = true ∧ decide ((s[k].toNat : Int) ≤ 57) = false)
            ∨ (0 < k ∧ decide ((97 : Int) ≤ (s[k].toNat : Int)) = true ∧ decide ((s[k].toNat : Int) ≤ 122) = false ∧ ((s[k].toNat : Int) == 95) = false ∧ decide ((48 : Int) ≤ (s[k].toNat : Int)) = true ∧ decide ((s[k].toNat : Int) ≤ 57) = false) := by
          simp at hb ⊢
          omega
        clear hb
        rcases hq with ⟨h1, h2⟩ | ⟨h1, h2, h3⟩ | ⟨h1, h2, h3, h4⟩ | ⟨h1, h2, h3, h4, h5⟩ | ⟨h1, h2, h3, h4, h5, h6⟩
        all_goals
          go_wp2
          go_ret
          exact ⟨bool_ret (by rw [HD.out, HN2.out, Bool.false_and]), rfl⟩
      · have HT2 := Aside0.mk (HT.out hc)
        have hb := nameC_good hc
        clear hc HN HT HB
        have hq : (decide ((97 : Int) ≤ (s[k].toNat : Int)) = true ∧ decide ((s[k].toNat : Int) ≤ 122) = true) ∨ (0 < k ∧ decide ((97 : Int) ≤ (s[k].toNat : Int)) = false ∧ ((s[k].toNat : Int) == 95) = true)
            ∨ (0 < k ∧ decide ((97 : Int) ≤ (s[k].toNat : Int)) = false ∧ ((s[k].toNat : Int) == 95) = false ∧ decide ((48 : Int) ≤ (s[k].toNat : Int)) = true ∧ decide ((s[k].toNat : Int) ≤ 57) = true) := by
          simp at hb ⊢
          omega
        clear hb
        rcases hq with ⟨h1, h2⟩ | ⟨h1, h2, h3⟩ | ⟨h1, h2, h3, h4, h5⟩
        all_goals
          go_wp2
          go_round
          case rel => exact ⟨k + 1, by omega, by go_num, HT2⟩
          case measure => simp [intOf]; omega
    · have hd : decide ((k : Int) < s.size) = false := by simp; omega
      have hks : k = s.size := by omega
      rw [hks] at HF
      rw [HF.out, Bool.true_and] at HD
      have hz : decide (1 ≤ s.size) = decide ((1 : Int) ≤ (s.size : Int)) := by rw [decide_eq_decide]; omega
      have hz2 : decide (s.size ≤ 12) = decide ((s.size : Int) ≤ 12) := by rw [decide_eq_decide]; omega
      rw [hz, hz2] at HD
      generalize hg1 : decide ((1 : Int) ≤ (s.size : Int)) = g1 at HD
      generalize hg2 : decide ((s.size : Int) ≤ 12) = g2 at HD
      clear hz hz2
      cases g1 <;> cases g2
      all_goals
        go_wp2
        go_ret
        exact ⟨bool_ret (by rw [HD.out]; rfl), rfl⟩
end Go.Proofs.YtdfgfjnpllncdaaGreatDoor

namespace Go.Proofs
open Go.Shelf
def Tryz.lays156_ren : Go.Shelf.Ren := ⟨fun | 156 => 34 | 165 => 57 | 166 => 58 | 169 => 59 | 240 => 96 | 241 => 97 | 276 => 123 | 277 => 124 | n => n, fun | 31 => 32 | 9 => 9 | 3 => 3 | 4 => 4 | 0 => 0 | 20 => 20 | 72 => 82 | 76 => 86 | 70 => 80 | 37 => 71 | 75 => 85 | 127 => 115 | 164 => 138 | 5 => 5 | 80 => 88 | n => n, fun | n => n⟩
theorem Tryz.lays156 : Go.Proofs.Lays.n156 Tryz.prog Tryz.lays156_ren := {
  mixed := by kernel_rfl
  f156 := Tryz.func34.trans (congrArg some (by kernel_rfl))
  f165 := Tryz.func57.trans (congrArg some (by kernel_rfl))
  f166 := Tryz.func58.trans (congrArg some (by kernel_rfl))
  f169 := Tryz.func59.trans (congrArg some (by kernel_rfl))
  f240 := Tryz.func96.trans (congrArg some (by kernel_rfl))
  f241 := Tryz.func97.trans (congrArg some (by kernel_rfl))
  f276 := Tryz.func123.trans (congrArg some (by kernel_rfl))
  f277 := Tryz.func124.trans (congrArg some (by kernel_rfl))
  t0 := Tryz.underlying0
  a0 := Tryz.isAgg0
  z0 := Tryz.sizeOf0
  v0 := Tryz.zeroValue0
  t3 := Tryz.underlying3
  a3 := Tryz.isAgg3
  z3 := Tryz.sizeOf3
  v3 := Tryz.zeroValue3
  t4 := Tryz.underlying4
  a4 := Tryz.isAgg4
  z4 := Tryz.sizeOf4
  v4 := Tryz.zeroValue4
  t9 := Tryz.underlying9
  a9 := Tryz.isAgg9
  z9 := Tryz.sizeOf9
  v9 := Tryz.zeroValue9
  t20 := Tryz.underlying20
  a20 := Tryz.isAgg20
  z20 := Tryz.sizeOf20
  v20 := Tryz.zeroValue20
  t31 := Tryz.underlying32
  a31 := Tryz.isAgg32
  z31 := Tryz.sizeOf32
  v31 := Tryz.zeroValue32
  t37 := Tryz.underlying71
  a37 := Tryz.isAgg71
  z37 := Tryz.sizeOf71
  v37 := Tryz.zeroValue71
  t70 := Tryz.underlying80
  a70 := Tryz.isAgg80
  z70 := Tryz.sizeOf80
  v70 := Tryz.zeroValue80
  t72 := Tryz.underlying82
  a72 := Tryz.isAgg82
  z72 := Tryz.sizeOf82
  v72 := Tryz.zeroValue82
  t75 := Tryz.underlying85
  a75 := Tryz.isAgg85
  z75 := Tryz.sizeOf85
  v75 := Tryz.zeroValue85
  t76 := Tryz.underlying86
  a76 := Tryz.isAgg86
  z76 := Tryz.sizeOf86
  v76 := Tryz.zeroValue86
  t127 := Tryz.underlying115
  a127 := Tryz.isAgg115
  z127 := Tryz.sizeOf115
  v127 := Tryz.zeroValue115
  t164 := Tryz.underlying138
  a164 := Tryz.isAgg138
  z164 := Tryz.sizeOf138
  v164 := Tryz.zeroValue138 }
theorem Tryz.Builder_Extra_156 : Builder.Extra Tryz.prog Tryz.lays156_ren := {
  sizeBuilder := by kernel_rfl
  liesBuilder := by kernel_rfl
  t5 := Tryz.underlying5
  a5 := Tryz.isAgg5
  z5 := Tryz.sizeOf5
  v5 := Tryz.zeroValue5
  infoByte := by kernel_rfl
  cellsByte := by kernel_rfl
  sizeByte := by kernel_rfl
  neB5 := by decide }
open Go.RowKit in
/-- No element: the empty string; the world is as it was. (Whatever the slice's address and capacity: a nil slice too.) (LAID: no walk: one application.) -/
theorem Tryz.strings_Join_none (a : Option Addr) (c : Nat) (sep : ByteArray) (w : World) :
    Calls Tryz.prog 34 #[.slice a 0 c, .string sep] w fun e w' => e = .returned (.string ⟨#[]⟩) ∧ w' = w := Any.strings_Join_none Tryz.lays156 Tryz.Builder_Extra_156 a c sep w
open Go.RowKit in
/-- strings.Join: "Join concatenates the elements of its first argument to create a single string. The separator string sep is placed between elements in the resulting string.": HOWEVER MANY ELEMENTS. Below the heap's end the world is as it was. (LAID: no walk: one application.) -/
theorem Tryz.strings_Join (bk o c : Nat) (xs : List ByteArray) (sep : ByteArray) (w : World) (hcells : ∀ (j : Nat) x, xs[j]? = some x → w.cell? ⟨bk, o + j, none⟩ = some (.string x)) (hbk : bk < w.heap.size) (hN : xs.length ≤ 140737488355328) (hcap : xs.length ≤ c) (hlen : (Lib.join (xs.map (·.data.toList)) sep.data.toList).length ≤ 140737488355328) :
    Calls Tryz.prog 34 #[.slice (some ⟨bk, o, none⟩) xs.length c, .string sep] w fun e w' => e = .returned (.string ⟨(Lib.join (xs.map (·.data.toList)) sep.data.toList).toArray⟩) ∧ Below w.heap.size w w' := Any.strings_Join Tryz.lays156 Tryz.Builder_Extra_156 bk o c xs sep w hcells hbk hN hcap hlen
def Tryz.lays161_ren : Go.Shelf.Ren := ⟨fun | 161 => 65 | 231 => 83 | 227 => 85 | 233 => 86 | 235 => 88 | 228 => 111 | 197 => 112 | 151 => 113 | 260 => 135 | 152 => 136 | 137 => 69 | 119 => 153 | 224 => 131 | 225 => 130 | 217 => 99 | 266 => 125 | n => n, fun | 9 => 9 | 4 => 4 | 3 => 3 | 5 => 5 | 117 => 107 | 116 => 106 | 0 => 0 | 124 => 110 | 105 => 123 | 21 => 21 | 119 => 112 | 46 => 144 | 139 => 173 | 138 => 172 | n => n, fun | 3 => 4 | 4 => 5 | n => n⟩
theorem Tryz.lays161 : Go.Proofs.Lays.n161 Tryz.prog Tryz.lays161_ren := {
  mixed := by kernel_rfl
  f119 := Tryz.func153.trans (congrArg some (by kernel_rfl))
  f137 := Tryz.func69.trans (congrArg some (by kernel_rfl))
  f151 := Tryz.func113.trans (congrArg some (by kernel_rfl))
  f152 := Tryz.func136.trans (congrArg some (by kernel_rfl))
  f161 := Tryz.func65.trans (congrArg some (by kernel_rfl))
  f197 := Tryz.func112.trans (congrArg some (by kernel_rfl))
  f217 := Tryz.func99.trans (congrArg some (by kernel_rfl))
  f224 := Tryz.func131.trans (congrArg some (by kernel_rfl))
  f225 := Tryz.func130.trans (congrArg some (by kernel_rfl))
  f227 := Tryz.func85.trans (congrArg some (by kernel_rfl))
  f228 := Tryz.func111.trans (congrArg some (by kernel_rfl))
  f231 := Tryz.func83.trans (congrArg some (by kernel_rfl))
  f233 := Tryz.func86.trans (congrArg some (by kernel_rfl))
  f235 := Tryz.func88.trans (congrArg some (by kernel_rfl))
  f260 := Tryz.func135.trans (congrArg some (by kernel_rfl))
  f266 := Tryz.func125.trans (congrArg some (by kernel_rfl))
  t0 := Tryz.underlying0
  a0 := Tryz.isAgg0
  z0 := Tryz.sizeOf0
  v0 := Tryz.zeroValue0
  t3 := Tryz.underlying3
  a3 := Tryz.isAgg3
  z3 := Tryz.sizeOf3
  v3 := Tryz.zeroValue3
  t4 := Tryz.underlying4
  a4 := Tryz.isAgg4
  z4 := Tryz.sizeOf4
  v4 := Tryz.zeroValue4
  t5 := Tryz.underlying5
  a5 := Tryz.isAgg5
  z5 := Tryz.sizeOf5
  v5 := Tryz.zeroValue5
  t9 := Tryz.underlying9
  a9 := Tryz.isAgg9
  z9 := Tryz.sizeOf9
  v9 := Tryz.zeroValue9
  t21 := Tryz.underlying21
  a21 := Tryz.isAgg21
  z21 := Tryz.sizeOf21
  v21 := Tryz.zeroValue21
  t46 := Tryz.underlying144
  a46 := Tryz.isAgg144
  z46 := Tryz.sizeOf144
  v46 := Tryz.zeroValue144
  t105 := Tryz.underlying123
  a105 := Tryz.isAgg123
  z105 := Tryz.sizeOf123
  v105 := Tryz.zeroValue123
  t116 := Tryz.underlying106
  a116 := Tryz.isAgg106
  z116 := Tryz.sizeOf106
  t117 := Tryz.underlying107
  a117 := Tryz.isAgg107
  z117 := Tryz.sizeOf107
  v117 := Tryz.zeroValue107
  t119 := Tryz.underlying112
  a119 := Tryz.isAgg112
  z119 := Tryz.sizeOf112
  t124 := Tryz.underlying110
  a124 := Tryz.isAgg110
  z124 := Tryz.sizeOf110
  v124 := Tryz.zeroValue110
  t138 := Tryz.underlying172
  a138 := Tryz.isAgg172
  z138 := Tryz.sizeOf172
  v138 := Tryz.zeroValue172
  t139 := Tryz.underlying173
  a139 := Tryz.isAgg173
  z139 := Tryz.sizeOf173
  v139 := Tryz.zeroValue173
  g3 := by kernel_rfl
  g4 := by kernel_rfl }
open Go.RowKit in
/-- strings.TrimLeft: "TrimLeft returns a slice of the string s with all leading Unicode code points contained in cutset removed.": AT A cutset OF ONE ASCII BYTE. The world is as it was. (LAID: no walk: one application.) -/
theorem Tryz.strings_TrimLeft_one (s : ByteArray) (c : UInt8) (hc : c.toNat < 128) (w : World) :
    Calls Tryz.prog 65 #[.string s, .string ⟨#[c]⟩] w fun e w' => e = .returned (.string ⟨(Lib.trimLeftB s.data.toList c).toArray⟩) ∧ w' = w := Any.strings_TrimLeft_one Tryz.lays161 s c hc w
def Tryz.lays137_ren : Go.Shelf.Ren := ⟨fun | 137 => 69 | 217 => 99 | 266 => 125 | n => n, fun | 9 => 9 | 5 => 5 | 3 => 3 | n => n, fun | n => n⟩
theorem Tryz.lays137 : Go.Proofs.Lays.n137 Tryz.prog Tryz.lays137_ren := {
  mixed := by kernel_rfl
  f137 := Tryz.func69.trans (congrArg some (by kernel_rfl))
  f217 := Tryz.func99.trans (congrArg some (by kernel_rfl))
  f266 := Tryz.func125.trans (congrArg some (by kernel_rfl))
  t3 := Tryz.underlying3
  a3 := Tryz.isAgg3
  z3 := Tryz.sizeOf3
  v3 := Tryz.zeroValue3
  t5 := Tryz.underlying5
  a5 := Tryz.isAgg5
  z5 := Tryz.sizeOf5
  v5 := Tryz.zeroValue5
  t9 := Tryz.underlying9
  a9 := Tryz.isAgg9
  z9 := Tryz.sizeOf9
  v9 := Tryz.zeroValue9 }
open Go.RowKit in
/-- strings.IndexByte: "IndexByte returns the index of the first instance of c in s, or -1 if c is not present in s.": IT RETURNS 'Lib.indexByte s c'; the world is as it was. (LAID: no walk: one application.) -/
theorem Tryz.strings_IndexByte (s : ByteArray) (c : Int) (w : World) :
    Calls Tryz.prog 69 #[.string s, .int .u8 c] w fun e w' => e = .returned (.int .i64 (Lib.indexByte s.data.toList c.toNat.toUInt8)) ∧ w' = w := Any.strings_IndexByte Tryz.lays137 s c w
def Tryz.lays121_ren : Go.Shelf.Ren := ⟨fun | 121 => 94 | 214 => 118 | n => n, fun | 4 => 4 | 9 => 9 | n => n, fun | n => n⟩
theorem Tryz.lays121 : Go.Proofs.Lays.n121 Tryz.prog Tryz.lays121_ren := {
  mixed := by kernel_rfl
  f121 := Tryz.func94.trans (congrArg some (by kernel_rfl))
  f214 := Tryz.func118.trans (congrArg some (by kernel_rfl))
  t4 := Tryz.underlying4
  a4 := Tryz.isAgg4
  z4 := Tryz.sizeOf4
  v4 := Tryz.zeroValue4
  t9 := Tryz.underlying9
  a9 := Tryz.isAgg9
  z9 := Tryz.sizeOf9
  v9 := Tryz.zeroValue9 }
open Go.RowKit in
/-- strconv.FormatBool: "FormatBool returns "true" or "false" according to the value of b.": IT RETURNS 'Lib.formatBool b'; the world is as it was. (LAID: no walk: one application.) -/
theorem Tryz.strconv_FormatBool (b : Bool) (w : World) :
    Calls Tryz.prog 94 #[.bool b] w fun e w' => e = .returned (.string ⟨(Lib.formatBool b).toArray⟩) ∧ w' = w := Any.strconv_FormatBool Tryz.lays121 b w
def Tryz.laysM171_ren : Go.Shelf.Ren := ⟨fun | 171 => 93 | 243 => 117 | 246 => 95 | 283 => 119 | 284 => 120 | 285 => 121 | 286 => 122 | 129 => 141 | 317 => 140 | 318 => 142 | 319 => 143 | 320 => 144 | 337 => 154 | 338 => 155 | n => n, fun | 3 => 3 | 9 => 9 | 2 => 2 | 4 => 4 | 171 => 133 | 0 => 0 | 53 => 89 | 37 => 71 | 5 => 5 | 173 => 136 | 212 => 160 | 51 => 130 | 20 => 20 | 213 => 161 | 46 => 144 | 232 => 183 | 233 => 184 | n => n, fun | 17 => 3 | 18 => 8 | 19 => 9 | n => n⟩
theorem Tryz.laysM171 : Go.Proofs.LaysM.n171 Tryz.prog Tryz.laysM171_ren := {
  mixed := by kernel_rfl
  f129 := Tryz.func141.trans (congrArg some (by kernel_rfl))
  f171 := Tryz.func93.trans (congrArg some (by kernel_rfl))
  f243 := Tryz.func117.trans (congrArg some (by kernel_rfl))
  f246 := Tryz.func95.trans (congrArg some (by kernel_rfl))
  f283 := Tryz.func119.trans (congrArg some (by kernel_rfl))
  f284 := Tryz.func120.trans (congrArg some (by kernel_rfl))
  f285 := Tryz.func121.trans (congrArg some (by kernel_rfl))
  f286 := Tryz.func122.trans (congrArg some (by kernel_rfl))
  f317 := Tryz.func140.trans (congrArg some (by kernel_rfl))
  f318 := Tryz.func142.trans (congrArg some (by kernel_rfl))
  f319 := Tryz.func143.trans (congrArg some (by kernel_rfl))
  f320 := Tryz.func144.trans (congrArg some (by kernel_rfl))
  f337 := Tryz.func154.trans (congrArg some (by kernel_rfl))
  f338 := Tryz.func155.trans (congrArg some (by kernel_rfl))
  t0 := Tryz.underlying0
  a0 := Tryz.isAgg0
  z0 := Tryz.sizeOf0
  v0 := Tryz.zeroValue0
  t2 := Tryz.underlying2
  a2 := Tryz.isAgg2
  z2 := Tryz.sizeOf2
  v2 := Tryz.zeroValue2
  t3 := Tryz.underlying3
  a3 := Tryz.isAgg3
  z3 := Tryz.sizeOf3
  v3 := Tryz.zeroValue3
  t4 := Tryz.underlying4
  a4 := Tryz.isAgg4
  z4 := Tryz.sizeOf4
  v4 := Tryz.zeroValue4
  t5 := Tryz.underlying5
  a5 := Tryz.isAgg5
  z5 := Tryz.sizeOf5
  v5 := Tryz.zeroValue5
  t9 := Tryz.underlying9
  a9 := Tryz.isAgg9
  z9 := Tryz.sizeOf9
  v9 := Tryz.zeroValue9
  t20 := Tryz.underlying20
  a20 := Tryz.isAgg20
  z20 := Tryz.sizeOf20
  v20 := Tryz.zeroValue20
  t37 := Tryz.underlying71
  a37 := Tryz.isAgg71
  z37 := Tryz.sizeOf71
  v37 := Tryz.zeroValue71
  t46 := Tryz.underlying144
  a46 := Tryz.isAgg144
  z46 := Tryz.sizeOf144
  v46 := Tryz.zeroValue144
  t51 := Tryz.underlying130
  a51 := Tryz.isAgg130
  z51 := Tryz.sizeOf130
  v51 := Tryz.zeroValue130
  t53 := Tryz.underlying89
  a53 := Tryz.isAgg89
  z53 := Tryz.sizeOf89
  v53 := Tryz.zeroValue89
  t171 := Tryz.underlying133
  a171 := Tryz.isAgg133
  z171 := Tryz.sizeOf133
  v171 := Tryz.zeroValue133
  t173 := Tryz.underlying136
  a173 := Tryz.isAgg136
  z173 := Tryz.sizeOf136
  v173 := Tryz.zeroValue136
  t212 := Tryz.underlying160
  a212 := Tryz.isAgg160
  z212 := Tryz.sizeOf160
  v212 := Tryz.zeroValue160
  t213 := Tryz.underlying161
  a213 := Tryz.isAgg161
  z213 := Tryz.sizeOf161
  t232 := Tryz.underlying183
  a232 := Tryz.isAgg183
  z232 := Tryz.sizeOf183
  v232 := Tryz.zeroValue183
  t233 := Tryz.underlying184
  a233 := Tryz.isAgg184
  z233 := Tryz.sizeOf184
  v233 := Tryz.zeroValue184
  g17 := by kernel_rfl
  g18 := by kernel_rfl
  g19 := by kernel_rfl
  i0 := by kernel_rfl
  i2 := by kernel_rfl
  i3 := by kernel_rfl
  i4 := by kernel_rfl
  i5 := by kernel_rfl
  i9 := by kernel_rfl
  i20 := by kernel_rfl
  i37 := by kernel_rfl
  i46 := by kernel_rfl
  i51 := by kernel_rfl
  i53 := by kernel_rfl
  i171 := by kernel_rfl
  i173 := by kernel_rfl
  i212 := by kernel_rfl
  i232 := by kernel_rfl
  i233 := by kernel_rfl
  m17 := by kernel_rfl
  m18 := by kernel_rfl
  m19 := by kernel_rfl }
open Go.RowKit Go.Sort Go.Lib in
/-- strconv.Itoa: "Itoa is equivalent to FormatInt(int64(i), 10).": i's DECIMAL NUMERAL ('Lib.itoa': a '-' where i is negative, then the digits), FOR EVERY int. The world behind the call: the world before it, new blocks behind the heap (the library's 'var a [24]byte'), draws. (LAID: no walk: one application.) -/
theorem Tryz.strconv_Itoa (n : Int) (h0 : -9223372036854775808 ≤ n) (h1 : n ≤ 9223372036854775807) (w : World) (htab : Lib.TabIs Tryz.prog w "internal/strconv.uint64pow10" .u64 Lib.pow10Tab) :
    Calls Tryz.prog 93 #[.int .i64 n] w fun e w' => e = .returned (.string ⟨(Lib.itoa n).toArray⟩) ∧ ∃ k os, w' = grow (w.drewN k) os := Any.strconv_Itoa Tryz.laysM171 n h0 h1 w htab
def Tryz.laysC172_ren : Go.Shelf.Ren := ⟨fun | 172 => 105 | 244 => 128 | 245 => 129 | 247 => 145 | 279 => 146 | 280 => 147 | 281 => 148 | 282 => 149 | 287 => 156 | 316 => 157 | 171 => 93 | 205 => 158 | 321 => 159 | 322 => 160 | 243 => 117 | 246 => 95 | 283 => 119 | 284 => 120 | 285 => 121 | 286 => 122 | 129 => 141 | 317 => 140 | 318 => 142 | 319 => 143 | 320 => 144 | 337 => 154 | 338 => 155 | n => n, fun | 9 => 9 | 3 => 3 | 75 => 85 | 76 => 86 | 4 => 4 | 5 => 5 | 167 => 163 | 37 => 71 | 0 => 0 | 85 => 164 | 2 => 2 | 168 => 166 | 53 => 89 | 175 => 177 | 46 => 144 | 210 => 181 | 127 => 115 | 145 => 188 | 143 => 186 | 21 => 21 | 171 => 133 | 173 => 136 | 212 => 160 | 51 => 130 | 20 => 20 | 213 => 161 | 232 => 183 | 233 => 184 | 80 => 88 | n => n, fun | 15 => 6 | 16 => 7 | 17 => 3 | 18 => 8 | 19 => 9 | n => n⟩
theorem Tryz.laysC172 : Go.Proofs.LaysC.n172 Tryz.prog Tryz.laysC172_ren := {
  mixed := by kernel_rfl
  f129 := Tryz.func141.trans (congrArg some (by kernel_rfl))
  f171 := Tryz.func93.trans (congrArg some (by kernel_rfl))
  f172 := Tryz.func105.trans (congrArg some (by kernel_rfl))
  f205 := Tryz.func158.trans (congrArg some (by kernel_rfl))
  f243 := Tryz.func117.trans (congrArg some (by kernel_rfl))
  f244 := Tryz.func128.trans (congrArg some (by kernel_rfl))
  f245 := Tryz.func129.trans (congrArg some (by kernel_rfl))
  f246 := Tryz.func95.trans (congrArg some (by kernel_rfl))
  f247 := Tryz.func145.trans (congrArg some (by kernel_rfl))
  f279 := Tryz.func146.trans (congrArg some (by kernel_rfl))
  f280 := Tryz.func147.trans (congrArg some (by kernel_rfl))
  f281 := Tryz.func148.trans (congrArg some (by kernel_rfl))
  f282 := Tryz.func149.trans (congrArg some (by kernel_rfl))
  f283 := Tryz.func119.trans (congrArg some (by kernel_rfl))
  f284 := Tryz.func120.trans (congrArg some (by kernel_rfl))
  f285 := Tryz.func121.trans (congrArg some (by kernel_rfl))
  f286 := Tryz.func122.trans (congrArg some (by kernel_rfl))
  f287 := Tryz.func156.trans (congrArg some (by kernel_rfl))
  f316 := Tryz.func157.trans (congrArg some (by kernel_rfl))
  f317 := Tryz.func140.trans (congrArg some (by kernel_rfl))
  f318 := Tryz.func142.trans (congrArg some (by kernel_rfl))
  f319 := Tryz.func143.trans (congrArg some (by kernel_rfl))
  f320 := Tryz.func144.trans (congrArg some (by kernel_rfl))
  f321 := Tryz.func159.trans (congrArg some (by kernel_rfl))
  f322 := Tryz.func160.trans (congrArg some (by kernel_rfl))
  f337 := Tryz.func154.trans (congrArg some (by kernel_rfl))
  f338 := Tryz.func155.trans (congrArg some (by kernel_rfl))
  t0 := Tryz.underlying0
  a0 := Tryz.isAgg0
  z0 := Tryz.sizeOf0
  v0 := Tryz.zeroValue0
  t2 := Tryz.underlying2
  a2 := Tryz.isAgg2
  z2 := Tryz.sizeOf2
  v2 := Tryz.zeroValue2
  t3 := Tryz.underlying3
  a3 := Tryz.isAgg3
  z3 := Tryz.sizeOf3
  v3 := Tryz.zeroValue3
  t4 := Tryz.underlying4
  a4 := Tryz.isAgg4
  z4 := Tryz.sizeOf4
  v4 := Tryz.zeroValue4
  t5 := Tryz.underlying5
  a5 := Tryz.isAgg5
  z5 := Tryz.sizeOf5
  v5 := Tryz.zeroValue5
  t9 := Tryz.underlying9
  a9 := Tryz.isAgg9
  z9 := Tryz.sizeOf9
  v9 := Tryz.zeroValue9
  t20 := Tryz.underlying20
  a20 := Tryz.isAgg20
  z20 := Tryz.sizeOf20
  v20 := Tryz.zeroValue20
  t21 := Tryz.underlying21
  a21 := Tryz.isAgg21
  z21 := Tryz.sizeOf21
  v21 := Tryz.zeroValue21
  t37 := Tryz.underlying71
  a37 := Tryz.isAgg71
  z37 := Tryz.sizeOf71
  v37 := Tryz.zeroValue71
  t46 := Tryz.underlying144
  a46 := Tryz.isAgg144
  z46 := Tryz.sizeOf144
  v46 := Tryz.zeroValue144
  t51 := Tryz.underlying130
  a51 := Tryz.isAgg130
  z51 := Tryz.sizeOf130
  v51 := Tryz.zeroValue130
  t53 := Tryz.underlying89
  a53 := Tryz.isAgg89
  z53 := Tryz.sizeOf89
  v53 := Tryz.zeroValue89
  t75 := Tryz.underlying85
  a75 := Tryz.isAgg85
  z75 := Tryz.sizeOf85
  v75 := Tryz.zeroValue85
  t76 := Tryz.underlying86
  a76 := Tryz.isAgg86
  z76 := Tryz.sizeOf86
  v76 := Tryz.zeroValue86
  t85 := Tryz.underlying164
  a85 := Tryz.isAgg164
  z85 := Tryz.sizeOf164
  v85 := Tryz.zeroValue164
  t127 := Tryz.underlying115
  a127 := Tryz.isAgg115
  z127 := Tryz.sizeOf115
  v127 := Tryz.zeroValue115
  t143 := Tryz.underlying186
  a143 := Tryz.isAgg186
  z143 := Tryz.sizeOf186
  v143 := Tryz.zeroValue186
  t145 := Tryz.underlying188
  a145 := Tryz.isAgg188
  z145 := Tryz.sizeOf188
  v145 := Tryz.zeroValue188
  t167 := Tryz.underlying163
  a167 := Tryz.isAgg163
  z167 := Tryz.sizeOf163
  v167 := Tryz.zeroValue163
  t168 := Tryz.underlying166
  a168 := Tryz.isAgg166
  z168 := Tryz.sizeOf166
  v168 := Tryz.zeroValue166
  t171 := Tryz.underlying133
  a171 := Tryz.isAgg133
  z171 := Tryz.sizeOf133
  v171 := Tryz.zeroValue133
  t173 := Tryz.underlying136
  a173 := Tryz.isAgg136
  z173 := Tryz.sizeOf136
  v173 := Tryz.zeroValue136
  t175 := Tryz.underlying177
  a175 := Tryz.isAgg177
  z175 := Tryz.sizeOf177
  v175 := Tryz.zeroValue177
  t210 := Tryz.underlying181
  a210 := Tryz.isAgg181
  z210 := Tryz.sizeOf181
  v210 := Tryz.zeroValue181
  t212 := Tryz.underlying160
  a212 := Tryz.isAgg160
  z212 := Tryz.sizeOf160
  v212 := Tryz.zeroValue160
  t213 := Tryz.underlying161
  a213 := Tryz.isAgg161
  z213 := Tryz.sizeOf161
  t232 := Tryz.underlying183
  a232 := Tryz.isAgg183
  z232 := Tryz.sizeOf183
  v232 := Tryz.zeroValue183
  t233 := Tryz.underlying184
  a233 := Tryz.isAgg184
  z233 := Tryz.sizeOf184
  v233 := Tryz.zeroValue184
  g15 := by kernel_rfl
  g16 := by kernel_rfl
  g17 := by kernel_rfl
  g18 := by kernel_rfl
  g19 := by kernel_rfl
  t80 := Tryz.underlying88
  a80 := Tryz.isAgg88
  z80 := Tryz.sizeOf88
  v80 := Tryz.zeroValue88
  i0 := by kernel_rfl
  i2 := by kernel_rfl
  i3 := by kernel_rfl
  i4 := by kernel_rfl
  i5 := by kernel_rfl
  i9 := by kernel_rfl
  i20 := by kernel_rfl
  i21 := by kernel_rfl
  i37 := by kernel_rfl
  i46 := by kernel_rfl
  i51 := by kernel_rfl
  i53 := by kernel_rfl
  i75 := by kernel_rfl
  i76 := by kernel_rfl
  i80 := by kernel_rfl
  i85 := by kernel_rfl
  i127 := by kernel_rfl
  i143 := by kernel_rfl
  i145 := by kernel_rfl
  i167 := by kernel_rfl
  i168 := by kernel_rfl
  i171 := by kernel_rfl
  i173 := by kernel_rfl
  i175 := by kernel_rfl
  i210 := by kernel_rfl
  i212 := by kernel_rfl
  i232 := by kernel_rfl
  i233 := by kernel_rfl
  m15 := by kernel_rfl
  m16 := by kernel_rfl
  m17 := by kernel_rfl
  m18 := by kernel_rfl
  m19 := by kernel_rfl
  c0 := by kernel_rfl
  c2 := by kernel_rfl
  c3 := by kernel_rfl
  c4 := by kernel_rfl
  c5 := by kernel_rfl
  c9 := by kernel_rfl
  c20 := by kernel_rfl
  c21 := by kernel_rfl
  c37 := by kernel_rfl
  c46 := by kernel_rfl
  c51 := by kernel_rfl
  c53 := by kernel_rfl
  c75 := by kernel_rfl
  c76 := by kernel_rfl
  c80 := by kernel_rfl
  c85 := by kernel_rfl
  c127 := by kernel_rfl
  c143 := by kernel_rfl
  c145 := by kernel_rfl
  c167 := by kernel_rfl
  c168 := by kernel_rfl
  c171 := by kernel_rfl
  c173 := by kernel_rfl
  c175 := by kernel_rfl
  c210 := by kernel_rfl
  c212 := by kernel_rfl
  c213 := by kernel_rfl
  c232 := by kernel_rfl
  c233 := by kernel_rfl }
open Go.RowKit in
/-- strconv.Atoi, AT EVERY STRING THAT SPELLS AN int ('Lib.atoiAll .. = .ok v'; of whatever length: leading zeros count): v, AND NO ERROR. The world: as it was, or with the one new row that '[]byte(..)' lays. (LAID: no walk: one application.) -/
theorem Tryz.strconv_Atoi_ok (s : ByteArray) (hmax : s.size ≤ 9223372036854775806) (v : Int) (h : Lib.atoiAll s.data.toList = .ok v) (w : World) :
    Calls Tryz.prog 105 #[.string s] w fun e w' => e = .returned (.tuple #[.int .i64 v, .nilIface]) ∧ (w' = w ∨ ∃ t, w' = Lib.bytesWorld w 5 t) := Any.strconv_Atoi_ok Tryz.laysC172 s hmax v h w
open Go.RowKit in
theorem Tryz.strconv_Atoi_syntax_var (s : ByteArray) (hlim : s.size ≤ 281474976710656) (h : ∀ v, Lib.atoiAll s.data.toList ≠ .ok v) (h' : Lib.atoiAll s.data.toList ≠ .range) (tp : TypeId) (p : Value) (w : World) (hvar : w.var? Tryz.prog "strconv.ErrSyntax" = some #[.iface tp p]) :
    Calls Tryz.prog 105 #[.string s] w fun e w' => ∃ N, e = .returned (.tuple #[.int .i64 0, .iface 166 (.pointer (some ⟨N, 0, none⟩))]) ∧ w.heap.size ≤ N ∧ w'.heap[N]? = some (.cells #[.string ⟨#[65, 116, 111, 105]⟩, .string s, .iface tp p] 181 (0, 0)) ∧ Below w.heap.size w w' := Any.strconv_Atoi_syntax_var Tryz.laysC172 s hlim (by cases e : Lib.atoiAll s.data.toList <;> first | rfl | exact absurd e (h _) | exact absurd e h') tp p w hvar
open Go.RowKit in
theorem Tryz.strconv_Atoi_range_var (s : ByteArray) (hlim : s.size ≤ 281474976710656) (h : Lib.atoiAll s.data.toList = .range) (tp : TypeId) (p : Value) (w : World) (hvar : w.var? Tryz.prog "strconv.ErrRange" = some #[.iface tp p]) :
    Calls Tryz.prog 105 #[.string s] w fun e w' => ∃ N, e = .returned (.tuple #[.int .i64 (Lib.atoiSat s.data.toList), .iface 166 (.pointer (some ⟨N, 0, none⟩))]) ∧ w.heap.size ≤ N ∧ w'.heap[N]? = some (.cells #[.string ⟨#[65, 116, 111, 105]⟩, .string s, .iface tp p] 181 (0, 0)) ∧ Below w.heap.size w w' := Any.strconv_Atoi_range_var Tryz.laysC172 s hlim h tp p w hvar
def Tryz.laysGw17_ren : Go.Shelf.Ren := ⟨fun | 17 => 47 | 15 => 90 | 20 => 115 | n => n, fun | 9 => 9 | 23 => 74 | 4 => 4 | 3 => 3 | 0 => 0 | 21 => 21 | n => n, fun | n => n⟩
theorem Tryz.laysGw17 : Go.Proofs.LaysGw.n17 Tryz.prog Tryz.laysGw17_ren := {
  mixed := by kernel_rfl
  f15 := Tryz.func90.trans (congrArg some (by kernel_rfl))
  f17 := Tryz.func47.trans (congrArg some (by kernel_rfl))
  f20 := Tryz.func115.trans (congrArg some (by kernel_rfl))
  t0 := Tryz.underlying0
  a0 := Tryz.isAgg0
  z0 := Tryz.sizeOf0
  v0 := Tryz.zeroValue0
  i0 := by kernel_rfl
  t3 := Tryz.underlying3
  a3 := Tryz.isAgg3
  z3 := Tryz.sizeOf3
  v3 := Tryz.zeroValue3
  i3 := by kernel_rfl
  t4 := Tryz.underlying4
  a4 := Tryz.isAgg4
  z4 := Tryz.sizeOf4
  v4 := Tryz.zeroValue4
  i4 := by kernel_rfl
  t9 := Tryz.underlying9
  a9 := Tryz.isAgg9
  z9 := Tryz.sizeOf9
  v9 := Tryz.zeroValue9
  i9 := by kernel_rfl
  t21 := Tryz.underlying21
  a21 := Tryz.isAgg21
  z21 := Tryz.sizeOf21
  v21 := Tryz.zeroValue21
  i21 := by kernel_rfl
  t23 := Tryz.underlying74
  a23 := Tryz.isAgg74
  z23 := Tryz.sizeOf74
  v23 := Tryz.zeroValue74
  i23 := by kernel_rfl }
def Tryz.lays157_ren : Go.Shelf.Ren := ⟨fun | 157 => 50 | 229 => 91 | 199 => 92 | 261 => 116 | 311 => 138 | 312 => 139 | n => n, fun | 9 => 9 | 31 => 32 | 3 => 3 | 5 => 5 | 4 => 4 | 119 => 112 | 0 => 0 | 40 => 74 | 152 => 127 | 21 => 21 | 154 => 129 | 51 => 130 | 141 => 132 | 196 => 151 | 193 => 148 | 198 => 154 | 49 => 152 | 194 => 149 | 201 => 157 | 226 => 174 | 46 => 144 | 227 => 175 | n => n, fun | 0 => 0 | 6 => 1 | n => n⟩
theorem Tryz.lays157 : Go.Proofs.Lays.n157 Tryz.prog Tryz.lays157_ren := {
  mixed := by kernel_rfl
  f157 := Tryz.func50.trans (congrArg some (by kernel_rfl))
  f199 := Tryz.func92.trans (congrArg some (by kernel_rfl))
  f229 := Tryz.func91.trans (congrArg some (by kernel_rfl))
  f261 := Tryz.func116.trans (congrArg some (by kernel_rfl))
  f311 := Tryz.func138.trans (congrArg some (by kernel_rfl))
  f312 := Tryz.func139.trans (congrArg some (by kernel_rfl))
  t0 := Tryz.underlying0
  a0 := Tryz.isAgg0
  z0 := Tryz.sizeOf0
  v0 := Tryz.zeroValue0
  t3 := Tryz.underlying3
  a3 := Tryz.isAgg3
  z3 := Tryz.sizeOf3
  v3 := Tryz.zeroValue3
  t4 := Tryz.underlying4
  a4 := Tryz.isAgg4
  z4 := Tryz.sizeOf4
  v4 := Tryz.zeroValue4
  t5 := Tryz.underlying5
  a5 := Tryz.isAgg5
  z5 := Tryz.sizeOf5
  v5 := Tryz.zeroValue5
  t9 := Tryz.underlying9
  a9 := Tryz.isAgg9
  z9 := Tryz.sizeOf9
  v9 := Tryz.zeroValue9
  t21 := Tryz.underlying21
  a21 := Tryz.isAgg21
  z21 := Tryz.sizeOf21
  v21 := Tryz.zeroValue21
  t31 := Tryz.underlying32
  a31 := Tryz.isAgg32
  z31 := Tryz.sizeOf32
  v31 := Tryz.zeroValue32
  t40 := Tryz.underlying74
  a40 := Tryz.isAgg74
  z40 := Tryz.sizeOf74
  v40 := Tryz.zeroValue74
  t46 := Tryz.underlying144
  a46 := Tryz.isAgg144
  z46 := Tryz.sizeOf144
  v46 := Tryz.zeroValue144
  t49 := Tryz.underlying152
  a49 := Tryz.isAgg152
  z49 := Tryz.sizeOf152
  v49 := Tryz.zeroValue152
  t51 := Tryz.underlying130
  a51 := Tryz.isAgg130
  z51 := Tryz.sizeOf130
  v51 := Tryz.zeroValue130
  t119 := Tryz.underlying112
  a119 := Tryz.isAgg112
  z119 := Tryz.sizeOf112
  t141 := Tryz.underlying132
  a141 := Tryz.isAgg132
  z141 := Tryz.sizeOf132
  v141 := Tryz.zeroValue132
  t152 := Tryz.underlying127
  a152 := Tryz.isAgg127
  z152 := Tryz.sizeOf127
  v152 := Tryz.zeroValue127
  t154 := Tryz.underlying129
  a154 := Tryz.isAgg129
  z154 := Tryz.sizeOf129
  v154 := Tryz.zeroValue129
  t193 := Tryz.underlying148
  a193 := Tryz.isAgg148
  z193 := Tryz.sizeOf148
  v193 := Tryz.zeroValue148
  t194 := Tryz.underlying149
  a194 := Tryz.isAgg149
  z194 := Tryz.sizeOf149
  v194 := Tryz.zeroValue149
  t196 := Tryz.underlying151
  a196 := Tryz.isAgg151
  z196 := Tryz.sizeOf151
  v196 := Tryz.zeroValue151
  t198 := Tryz.underlying154
  a198 := Tryz.isAgg154
  z198 := Tryz.sizeOf154
  v198 := Tryz.zeroValue154
  t201 := Tryz.underlying157
  a201 := Tryz.isAgg157
  z201 := Tryz.sizeOf157
  v201 := Tryz.zeroValue157
  t226 := Tryz.underlying174
  a226 := Tryz.isAgg174
  z226 := Tryz.sizeOf174
  v226 := Tryz.zeroValue174
  t227 := Tryz.underlying175
  a227 := Tryz.isAgg175
  z227 := Tryz.sizeOf175
  v227 := Tryz.zeroValue175
  g0 := by kernel_rfl
  g6 := by kernel_rfl }
open Go.RowKit Go.Lib in
/-- strings.Fields, the table by 'Lib.TabIs' (as strings.TrimSpace's contract). 'hg': the table's number, by its name: at a dump 'by kernel_rfl'. (LAID: no walk: one application.) -/
theorem Tryz.strings_Fields (s : ByteArray) (w : World) (hs : s.size < 4294967281) (hascii : ∀ (j : Nat) b, s.data.toList[j]? = some b → b.toNat < 128) (htab : Lib.TabIs Tryz.prog w "strings.asciiSpace" .u8 Lib.asciiSpaceTab) :
    Calls Tryz.prog 50 #[.string s] w fun e w' =>
      e = .returned (.slice (some ⟨w.heap.size, 0, none⟩) (Lib.fields s.data.toList).length (Lib.fields s.data.toList).length) ∧ w' = w.alloc (.cells ((Lib.fields s.data.toList).map fun l => Value.string ⟨l.toArray⟩).toArray 9) := Any.strings_Fields Tryz.lays157 (by kernel_rfl) (by kernel_rfl) s w hs hascii htab
def Tryz.lays227_ren : Go.Shelf.Ren := ⟨fun | 227 => 85 | n => n, fun | 9 => 9 | 116 => 106 | 4 => 4 | 0 => 0 | 3 => 3 | 5 => 5 | n => n, fun | n => n⟩
theorem Tryz.lays227 : Go.Proofs.Lays.n227 Tryz.prog Tryz.lays227_ren := {
  mixed := by kernel_rfl
  f227 := Tryz.func85.trans (congrArg some (by kernel_rfl))
  t0 := Tryz.underlying0
  a0 := Tryz.isAgg0
  z0 := Tryz.sizeOf0
  v0 := Tryz.zeroValue0
  t3 := Tryz.underlying3
  a3 := Tryz.isAgg3
  z3 := Tryz.sizeOf3
  v3 := Tryz.zeroValue3
  t4 := Tryz.underlying4
  a4 := Tryz.isAgg4
  z4 := Tryz.sizeOf4
  v4 := Tryz.zeroValue4
  t5 := Tryz.underlying5
  a5 := Tryz.isAgg5
  z5 := Tryz.sizeOf5
  v5 := Tryz.zeroValue5
  t9 := Tryz.underlying9
  a9 := Tryz.isAgg9
  z9 := Tryz.sizeOf9
  v9 := Tryz.zeroValue9
  t116 := Tryz.underlying106
  a116 := Tryz.isAgg106
  z116 := Tryz.sizeOf106 }
open Go.RowKit Go.Lib in
theorem Tryz.strings_makeASCIISet (hv116 : ∀ w, (zeroValue 106).run Tryz.prog w = .ok (.agg (Array.replicate 256 (.bool false))) w) (chars : ByteArray) (w : World) (hs : chars.size < 4294967281) (hascii : ∀ (j : Nat) b, chars.data.toList[j]? = some b → b.toNat < 128) :
    Calls Tryz.prog 85 #[.string chars] w fun e w' => e = .returned (.tuple #[.agg (Lib.setCells chars.data.toList), .bool true]) ∧ w' = w.alloc (.cells (Lib.setCells chars.data.toList) 106) := Any.strings_makeASCIISet Tryz.lays227 hv116 (by kernel_rfl) chars w hs hascii
def Tryz.lays228_ren : Go.Shelf.Ren := ⟨fun | 228 => 111 | n => n, fun | 124 => 110 | 5 => 5 | 4 => 4 | 0 => 0 | 116 => 106 | n => n, fun | n => n⟩
theorem Tryz.lays228 : Go.Proofs.Lays.n228 Tryz.prog Tryz.lays228_ren := {
  mixed := by kernel_rfl
  f228 := Tryz.func111.trans (congrArg some (by kernel_rfl))
  t0 := Tryz.underlying0
  a0 := Tryz.isAgg0
  z0 := Tryz.sizeOf0
  v0 := Tryz.zeroValue0
  t4 := Tryz.underlying4
  a4 := Tryz.isAgg4
  z4 := Tryz.sizeOf4
  v4 := Tryz.zeroValue4
  t5 := Tryz.underlying5
  a5 := Tryz.isAgg5
  z5 := Tryz.sizeOf5
  v5 := Tryz.zeroValue5
  t116 := Tryz.underlying106
  a116 := Tryz.isAgg106
  z116 := Tryz.sizeOf106
  t124 := Tryz.underlying110
  a124 := Tryz.isAgg110
  z124 := Tryz.sizeOf110
  v124 := Tryz.zeroValue110 }
open Go.RowKit Go.Lib in
/-- '(as *asciiSet) contains(c)': 'as[c]': the set lies at block b, whole. (LAID: no walk: one application.) -/
theorem Tryz.asciiSet_contains (b : Nat) (x : UInt8) (v : Bool) (w : World) (hc : w.cell? ⟨b, x.toNat, none⟩ = some (.bool v)) :
    Calls Tryz.prog 111 #[.pointer (some ⟨b, 0, none⟩), .int .u8 x.toNat] w fun e w' => e = .returned (.bool v) ∧ w' = w := Any.asciiSet_contains Tryz.lays228 b x v w hc
open Go.RowKit Go.Lib in
theorem Tryz.strings_ContainsFunc_grows (g : Nat) (lb : Array Value) (eg : ∀ args w, (callFunc g args).run Tryz.prog w = .ok (.enter g args) w) (p : Nat → Bool) (s : ByteArray) (w : World) (hp : PredGrows Tryz.prog g lb p w) :
    Calls Tryz.prog 47 #[.string s, .func (.func g) #[] lb] w fun e w' => e = .returned (.bool (decide (0 ≤ Lib.idxFunc p true s))) ∧ Below w.heap.size w w' := Any.strings_ContainsFunc_grows Tryz.laysGw17 g lb eg p s w hp
end Go.Proofs

set_option linter.constructorNameAsVariable false
namespace Go.Proofs.YtdfgfjnpllncdaaGreatDoor
open Go.RowKit Go.Proofs.YtdfgfjnpllncdaaGreatDoorW.PrintWords

def SetAt (w : World) (b : Nat) (f : UInt8 → Bool) : Prop := ∀ x : UInt8, w.cell? ⟨b, x.toNat, none⟩ = some (.bool (f x))
theorem str_ret {a b : ByteArray} (h : a = b) : Ending.returned (.string a) = .returned (.string b) := by rw [h]
theorem str_val {a b : ByteArray} (h : a = b) : Value.string a = .string b := by rw [h]
theorem tail_ext (x : UInt8) (m : List UInt8) (n : Nat) (hn : n = m.length + 1) : (⟨(x :: m).toArray⟩ : ByteArray).extract 1 n = ⟨m.toArray⟩ := by
  subst hn
  apply ByteArray.ext
  rw [ByteArray.data_extract]
  apply Array.toList_inj.1
  rw [Array.toList_extract]
  simp [List.extract_eq_take_drop]
theorem head_ext (m : List UInt8) (x : UInt8) (s : ByteArray) (hs : s = ⟨(m ++ [x]).toArray⟩) : s.extract 0 m.length = ⟨m.toArray⟩ := by
  subst hs
  apply ByteArray.ext
  rw [ByteArray.data_extract]
  apply Array.toList_inj.1
  rw [Array.toList_extract]
  simp [List.extract_eq_take_drop]
set_option maxRecDepth 100000 in
theorem trimL_any (f : UInt8 → Bool) (l : List UInt8) (b : Nat) (w : World) (h : SetAt w b f) (hm : l.length ≤ 9223372036854775807) :
    Calls Tryz.prog 86 #[.string ⟨l.toArray⟩, .pointer (some ⟨b, 0, none⟩)] w fun e w' => e = .returned (.string ⟨(l.dropWhile f).toArray⟩) ∧ w = w' := by
  have HS := Aside0.mk h
  clear h
  go_enter Tryz.func86, Tryz.ntmps86
  go_wp2
  go_loopw [0] (fun u wr => ∃ m : List UInt8, u = .string ⟨m.toArray⟩ ∧ m.length ≤ 9223372036854775807 ∧ Aside0 (l.dropWhile f = m.dropWhile f) ∧ w = wr) (fun u _ => match u with | .string s => s.size | _ => 0)
  case atStart => exact ⟨l, rfl, hm, ⟨rfl⟩, rfl⟩
  case round =>
    obtain ⟨m, rfl, hm2, HE, rfl⟩ := hrel
    cases m with
    | nil =>
      go_wp2
      go_ret
      exact ⟨by rw [HE.out]; rfl, rfl⟩
    | cons x m =>
      have hc := Tryz.asciiSet_contains b x (f x) w (HS.out x)
      generalize hfx : f x = g at hc
      have HC := Aside0.mk hc
      clear hc
      cases g
      · go_wp2_with (go_at_call 111; refine HC.out.mono ?_; rintro e w1 ⟨rfl, rfl⟩)
        go_ret
        exact ⟨str_ret (by rw [HE.out, List.dropWhile_cons, hfx]; rfl), rfl⟩
      · go_wp2_with (go_at_call 111; refine HC.out.mono ?_; rintro e w1 ⟨rfl, rfl⟩)
        go_roundw
        case rel => exact ⟨m, str_val (tail_ext x m _ (by simp)), by simp at hm2; omega, ⟨by rw [HE.out, List.dropWhile_cons, hfx]; rfl⟩, by first | rfl | trivial⟩
        case measure =>
          have hz : (⟨(x :: m).toArray⟩ : ByteArray).size = m.length + 1 := by simp [ByteArray.size]
          simp
          omega
/-- Without the last ones of a kind. -/
def dropEnd (f : UInt8 → Bool) (l : List UInt8) : List UInt8 := (l.reverse.dropWhile f).reverse
theorem dropEnd_last (f : UInt8 → Bool) (l : List UInt8) (x : UInt8) : dropEnd f (l ++ [x]) = if f x = true then dropEnd f l else l ++ [x] := by
  unfold dropEnd
  rw [List.reverse_append]
  simp only [List.reverse_cons, List.reverse_nil, List.nil_append, List.singleton_append, List.dropWhile_cons]
  split <;> simp
set_option maxRecDepth 100000 in
theorem trimR_any (f : UInt8 → Bool) (l : List UInt8) (b : Nat) (w : World) (h : SetAt w b f) (hm : l.length ≤ 9223372036854775807) :
    Calls Tryz.prog 87 #[.string ⟨l.toArray⟩, .pointer (some ⟨b, 0, none⟩)] w fun e w' => e = .returned (.string ⟨(dropEnd f l).toArray⟩) ∧ w = w' := by
  have HS := Aside0.mk h
  clear h
  go_enter Tryz.func87, Tryz.ntmps87
  go_wp2
  go_loopw [0] (fun u wr => ∃ m : List UInt8, u = .string ⟨m.toArray⟩ ∧ m.length ≤ 9223372036854775807 ∧ Aside0 (dropEnd f l = dropEnd f m) ∧ w = wr) (fun u _ => match u with | .string s => s.size | _ => 0)
  case atStart => exact ⟨l, rfl, hm, ⟨rfl⟩, rfl⟩
  case round =>
    obtain ⟨m, rfl, hm2, HE, rfl⟩ := hrel
    rcases List.eq_nil_or_concat m with rfl | ⟨m, x, rfl⟩
    · go_wp2
      go_ret
      exact ⟨by rw [HE.out]; rfl, rfl⟩
    · rw [List.concat_eq_append] at hm2 HE ⊢
      rw [List.length_append, List.length_singleton] at hm2
      have hc := Tryz.asciiSet_contains b x (f x) w (HS.out x)
      obtain ⟨s, hs⟩ : ∃ s : ByteArray, s = ⟨(m ++ [x]).toArray⟩ := ⟨_, rfl⟩
      have hsz : s.size = m.length + 1 := by rw [hs]; simp [ByteArray.size]
      have hlt : m.length < s.size := by omega
      have hlast : s[m.length] = x := by
        subst hs
        simp [ByteArray.getElem_eq_getElem_data]
      have n1 : IntKind.i64.wrap ((s.size : Int) - 1) = (m.length : Int) := by rw [IntKind.wrap_i64]; omega
      have n2 : wrap64 ((s.size : Int) - 1) = (m.length : Int) := wrap64_id (by omega) (by omega) |>.trans (by omega)
      have n0 : decide ((0 : Int) < (s.size : Int)) = true := by simp; omega
      have hi : (m.length : Int) < (s.size : Int) := by omega
      generalize hfx : f x = g at hc
      have HC := Aside0.mk hc
      have HSS := Aside0.mk hs
      have HSZ := Aside0.mk hsz
      rw [← hs]
      clear hc hs hsz
      cases g
      · go_wp2_with (go_at_call 111; refine HC.out.mono ?_; rintro e w1 ⟨rfl, rfl⟩)
        go_ret
        exact ⟨str_ret (by rw [HE.out, dropEnd_last, hfx, HSS.out]; rfl), rfl⟩
      · go_wp2_with (go_at_call 111; refine HC.out.mono ?_; rintro e w1 ⟨rfl, rfl⟩)
        go_roundw
        case rel => exact ⟨m, str_val (head_ext m x _ HSS.out), by omega, ⟨by rw [HE.out, dropEnd_last, hfx]; rfl⟩, by first | rfl | trivial⟩
        case measure =>
          have hz := HSZ.out
          simp [ByteArray.size_extract]
          omega
end Go.Proofs.YtdfgfjnpllncdaaGreatDoor

set_option linter.constructorNameAsVariable false
namespace Go.Proofs.YtdfgfjnpllncdaaGreatDoor
open Go.RowKit Go.Proofs.YtdfgfjnpllncdaaGreatDoorW.PrintWords

def trimB (f : UInt8 → Bool) (l : List UInt8) : List UInt8 := (dropEnd f l).dropWhile f
theorem setAt_cells {w : World} {b t : Nat} {l : List UInt8} (h : w.heap[b]? = some (.cells (Lib.setCells l) t (0, 0))) : SetAt w b (fun x => l.contains x) := by
  intro x
  unfold World.cell?
  rw [h]
  simp [Lib.setCells_at]
theorem zero_set (w : World) : (zeroValue 106).run Tryz.prog w = .ok (.agg (Array.replicate 256 (.bool false))) w := by
  go_simp
  kernel_rfl
theorem set_one (l : List UInt8) : (Lib.setCells l).all (·.oneCell') = true := by
  rw [Lib.setCells_eq, Array.all_map]
  apply Array.all_eq_true.2
  intro i hi
  rfl
set_option maxHeartbeats 1000000 in
set_option maxRecDepth 100000 in
theorem trim_any (l : List UInt8) (cut : ByteArray) (w : World) (hl : l ≠ []) (hm : l.length ≤ 9223372036854775807) (hc1 : 2 ≤ cut.size) (hc2 : cut.size < 4294967281) (hascii : ∀ (j : Nat) b, cut.data.toList[j]? = some b → b.toNat < 128) :
    Calls Tryz.prog 46 #[.string ⟨l.toArray⟩, .string cut] w fun e w' => e = .returned (.string ⟨(trimB (fun x => cut.data.toList.contains x) l).toArray⟩) ∧ Below w.heap.size w w' := by
  have HM := Aside0.mk (fun W => Tryz.strings_makeASCIISet zero_set cut W hc2 hascii)
  obtain ⟨s, hs⟩ : ∃ s : ByteArray, s = ⟨l.toArray⟩ := ⟨_, rfl⟩
  have hsz : s.size = l.length := by rw [hs]; simp [ByteArray.size]
  have hs1 : s.toList ≠ [] := by rw [ByteArray.toList_eq, hs]; simpa using hl
  have hs2 : s.toList.isEmpty = false := by simpa using hs1
  have hs3 : cut.toList ≠ [] := by
    rw [ByteArray.toList_eq]
    intro e
    have : cut.data.toList.length = 0 := by rw [e]; rfl
    rw [Array.length_toList] at this
    have h2 : cut.size = cut.data.size := rfl
    omega
  have hs4 : cut.toList.isEmpty = false := by simpa using hs3
  have h1 : ((cut.size : Int) == 1) = false := by simp; omega
  have hz := Lib.setCells_size cut.data.toList
  have hst := run_storeCells_new (P := Tryz.prog) (w.alloc (.cells (Lib.setCells cut.data.toList) 106)) 106 Tryz.zeroCells106 (Lib.setCells cut.data.toList) (by rw [hz]; kernel_rfl) (by rw [hz]; kernel_rfl) (set_one _)
  rw [World.size_alloc] at hst
  have HSS := Aside0.mk hs
  have hT : SetAt ((w.alloc (.cells (Lib.setCells cut.data.toList) 106)).alloc (.cells (Lib.setCells cut.data.toList) 106)) (w.heap.size + 1) (fun x => cut.data.toList.contains x) := by
    have := heap_alloc_new (w.alloc (.cells (Lib.setCells cut.data.toList) 106)) (.cells (Lib.setCells cut.data.toList) 106)
    rw [World.size_alloc] at this
    exact setAt_cells this
  have t1 := trimR_any (fun x => cut.data.toList.contains x) l (w.heap.size + 1) _ hT hm
  have hd2 : (dropEnd (fun x => cut.data.toList.contains x) l).length ≤ 9223372036854775807 := by
    unfold dropEnd
    rw [List.length_reverse]
    have := (List.dropWhile_suffix (fun x => cut.data.toList.contains x) (l := l.reverse)).length_le
    rw [List.length_reverse] at this
    omega
  have t2 := trimL_any (fun x => cut.data.toList.contains x) (dropEnd (fun x => cut.data.toList.contains x) l) (w.heap.size + 1) _ hT hd2
  rw [← hs] at t1
  obtain ⟨f, hf⟩ : ∃ f : UInt8 → Bool, f = fun x => cut.data.toList.contains x := ⟨_, rfl⟩
  rw [← hf] at t1 t2 ⊢
  have T1 := Aside0.mk t1
  have T2 := Aside0.mk t2
  rw [← hs]
  clear hs hsz hascii t1 t2 hT hd2 hf
  go_enter Tryz.func46, Tryz.ntmps46
  go_wp2_with (first
    | (go_at_call 85; refine (HM.out _).mono ?_; rintro e w1 ⟨rfl, hw1⟩)
    | (go_at_call 87; (with_reducible refine T1.out.mono ?_); rintro e w2 ⟨rfl, rfl⟩)
    | (go_at_call 86; (with_reducible refine T2.out.mono ?_); rintro e w3 ⟨rfl, rfl⟩))
  go_ret
  exact ⟨rfl, below_alloc' (below_alloc' (Below.refl _ _) _) _⟩
end Go.Proofs.YtdfgfjnpllncdaaGreatDoor

set_option linter.constructorNameAsVariable false
namespace Go.Proofs.YtdfgfjnpllncdaaGreatDoor
open Go.RowKit Go.Proofs.YtdfgfjnpllncdaaGreatDoorW.PrintWords

def runeOk (n : Nat) : Bool := (decide (97 ≤ n) && decide (n ≤ 122)) || (decide (48 ≤ n) && decide (n ≤ 57)) || (n == 95)
theorem runeOk_cases (n : Nat) : (runeOk n = true ∧ (97 ≤ n ∧ n ≤ 122 ∨ (n < 97 ∧ 48 ≤ n ∧ n ≤ 57) ∨ n = 95)) ∨ (runeOk n = false ∧ (n < 48 ∨ (n < 97 ∧ 57 < n ∧ n ≠ 95) ∨ 122 < n)) := by
  unfold runeOk
  by_cases h1 : 97 ≤ n ∧ n ≤ 122
  · left; simp [h1.1, h1.2]
  by_cases h2 : 48 ≤ n ∧ n ≤ 57
  · left; simp [h2.1, h2.2]; omega
  by_cases h3 : n = 95
  · left; subst h3; simp
  · right; simp; omega
set_option maxHeartbeats 1000000 in
set_option maxRecDepth 100000 in
theorem runeBad_any (n : Nat) (w : World) (hn : n ≤ 1114111) :
    Calls Tryz.prog 48 #[.int .i32 n] w fun e w' => e = .returned (.bool (!runeOk n)) ∧ w = w' := by
  rcases runeOk_cases n with ⟨h, hc⟩ | ⟨h, hc⟩
  · have hq : (decide ((97 : Int) ≤ (n : Int)) = true ∧ decide ((n : Int) ≤ 122) = true) ∨ (decide ((97 : Int) ≤ (n : Int)) = false ∧ decide ((48 : Int) ≤ (n : Int)) = true ∧ decide ((n : Int) ≤ 57) = true) ∨ (decide ((97 : Int) ≤ (n : Int)) = false ∧ decide ((48 : Int) ≤ (n : Int)) = true ∧ decide ((n : Int) ≤ 57) = false ∧ ((n : Int) == 95) = true) := by
      simp only [decide_eq_true_eq, decide_eq_false_iff_not, beq_iff_eq]
      omega
    rw [h]
    clear hc h
    rcases hq with ⟨h1, h2⟩ | ⟨h1, h2, h3⟩ | ⟨h1, h2, h3, h4⟩
    all_goals
      go_enter Tryz.func48, Tryz.ntmps48
      go_wp2
      go_ret
      exact ⟨rfl, rfl⟩
  · have hq : (decide ((97 : Int) ≤ (n : Int)) = false ∧ decide ((48 : Int) ≤ (n : Int)) = false ∧ ((n : Int) == 95) = false) ∨ (decide ((97 : Int) ≤ (n : Int)) = false ∧ decide ((48 : Int) ≤ (n : Int)) = true ∧ decide ((n : Int) ≤ 57) = false ∧ ((n : Int) == 95) = false) ∨ (decide ((97 : Int) ≤ (n : Int)) = true ∧ decide ((n : Int) ≤ 122) = false ∧ decide ((48 : Int) ≤ (n : Int)) = true ∧ decide ((n : Int) ≤ 57) = false ∧ ((n : Int) == 95) = false) := by
      simp only [decide_eq_true_eq, decide_eq_false_iff_not, beq_eq_false_iff_ne, ne_eq]
      omega
    rw [h]
    clear hc h
    rcases hq with ⟨h1, h2, h3⟩ | ⟨h1, h2, h3, h4⟩ | ⟨h1, h2, h3, h4, h5⟩
    all_goals
      go_enter Tryz.func48, Tryz.ntmps48
      go_wp2
      go_ret
      exact ⟨rfl, rfl⟩
theorem dw_nil {f : UInt8 → Bool} : ∀ {l : List UInt8}, l.dropWhile f = [] ↔ ∀ x ∈ l, f x = true
  | [] => by simp
  | a :: l => by
    rw [List.dropWhile_cons]
    by_cases h : f a = true
    · rw [if_pos h, dw_nil]
      simp [h]
    · rw [if_neg h]
      simp [h]
theorem dropEnd_nil {f : UInt8 → Bool} {l : List UInt8} : dropEnd f l = [] ↔ l.all f = true := by
  unfold dropEnd
  rw [List.reverse_eq_nil_iff, List.all_eq_true]
  constructor
  · intro h x hx
    have := dw_nil.1 h x (List.mem_reverse.2 hx)
    exact this
  · intro h
    exact dw_nil.2 fun x hx => h x (List.mem_reverse.1 hx)
theorem trimB_nil {f : UInt8 → Bool} {l : List UInt8} : trimB f l = [] ↔ l.all f = true := by
  unfold trimB
  constructor
  · intro h
    have h1 := dw_nil.1 h
    rcases List.eq_nil_or_concat (dropEnd f l) with he | ⟨m, x, he⟩
    · exact dropEnd_nil.1 he
    · exfalso
      have hx : f x = true := h1 x (by rw [he]; simp)
      have hr : dropEnd f l = (l.reverse.dropWhile f).reverse := rfl
      rw [he, List.concat_eq_append] at hr
      have h2 := congrArg List.reverse hr
      rw [List.reverse_append, List.reverse_reverse] at h2
      simp only [List.reverse_cons, List.reverse_nil, List.nil_append, List.singleton_append] at h2
      have h3 := List.head?_dropWhile_not f l.reverse
      rw [← h2] at h3
      simp at h3
      rw [h3] at hx
      cases hx
  · intro h
    rw [dropEnd_nil.2 h]
    rfl
end Go.Proofs.YtdfgfjnpllncdaaGreatDoor

set_option linter.constructorNameAsVariable false
namespace Go.Proofs.YtdfgfjnpllncdaaGreatDoor
open Go.RowKit Go.Proofs.YtdfgfjnpllncdaaGreatDoorW.PrintWords

def letters : ByteArray := ⟨#[97, 98, 99, 100, 101, 102, 103, 104, 105, 106, 107, 108, 109, 110, 111, 112, 113, 114, 115, 116, 117, 118, 119, 120, 121, 122]⟩
def signs : ByteArray := ⟨#[97, 98, 99, 100, 101, 102, 103, 104, 105, 106, 107, 108, 109, 110, 111, 112, 113, 114, 115, 116, 117, 118, 119, 120, 121, 122, 48, 49, 50, 51, 52, 53, 54, 55, 56, 57, 95]⟩
def letterB (y : UInt8) : Bool := decide (97 ≤ y.toNat) && decide (y.toNat ≤ 122)
def signB (y : UInt8) : Bool := runeOk y.toNat
set_option maxRecDepth 100000 in
theorem letters_eq : (fun x => letters.data.toList.contains x) = letterB := by
  funext y
  have h := (by decide : ∀ n : Fin 256, (letters.data.toList.contains (UInt8.ofNat n.val)) = letterB (UInt8.ofNat n.val)) ⟨y.toNat, y.toNat_lt⟩
  rwa [UInt8.ofNat_toNat] at h
set_option maxRecDepth 100000 in
theorem signs_eq : (fun x => signs.data.toList.contains x) = signB := by
  funext y
  have h := (by decide : ∀ n : Fin 256, (signs.data.toList.contains (UInt8.ofNat n.val)) = signB (UInt8.ofNat n.val)) ⟨y.toNat, y.toNat_lt⟩
  rwa [UInt8.ofNat_toNat] at h
theorem ba_list (s : ByteArray) : (⟨s.data.toList.toArray⟩ : ByteArray) = s := by apply ByteArray.ext; simp
theorem isEmpty_of (l : List UInt8) : (⟨l.toArray⟩ : ByteArray).toList.isEmpty = l.isEmpty := by rw [ByteArray.toList_eq]
theorem trimB_empty (f : UInt8 → Bool) (l : List UInt8) : (trimB f l).isEmpty = l.all f := by
  rw [Bool.eq_iff_iff, List.isEmpty_iff]
  exact trimB_nil
theorem ascii_letters : ∀ (j : Nat) b, letters.data.toList[j]? = some b → b.toNat < 128 := by
  intro j b h
  have := (by decide : ∀ b ∈ letters.data.toList, b.toNat < 128) b (List.mem_of_getElem? h)
  exact this
theorem ascii_signs : ∀ (j : Nat) b, signs.data.toList[j]? = some b → b.toNat < 128 := by
  intro j b h
  have := (by decide : ∀ b ∈ signs.data.toList, b.toNat < 128) b (List.mem_of_getElem? h)
  exact this
theorem trimLetters_any (l : List UInt8) (w : World) (hl : l ≠ []) (hm : l.length ≤ 9223372036854775807) :
    Calls Tryz.prog 46 #[.string ⟨l.toArray⟩, .string ⟨#[97, 98, 99, 100, 101, 102, 103, 104, 105, 106, 107, 108, 109, 110, 111, 112, 113, 114, 115, 116, 117, 118, 119, 120, 121, 122]⟩] w fun e w' => e = .returned (.string ⟨(trimB letterB l).toArray⟩) ∧ Below w.heap.size w w' := by
  have := trim_any l letters w hl hm (by decide) (by decide) ascii_letters
  rw [letters_eq] at this
  exact this
theorem trimSigns_any (l : List UInt8) (w : World) (hl : l ≠ []) (hm : l.length ≤ 9223372036854775807) :
    Calls Tryz.prog 46 #[.string ⟨l.toArray⟩, .string ⟨#[97, 98, 99, 100, 101, 102, 103, 104, 105, 106, 107, 108, 109, 110, 111, 112, 113, 114, 115, 116, 117, 118, 119, 120, 121, 122, 48, 49, 50, 51, 52, 53, 54, 55, 56, 57, 95]⟩] w fun e w' => e = .returned (.string ⟨(trimB signB l).toArray⟩) ∧ Below w.heap.size w w' := by
  have := trim_any l signs w hl hm (by decide) (by decide) ascii_signs
  rw [signs_eq] at this
  exact this
theorem idxFunc_none (s : ByteArray) (h : s.data.toList.all signB = true) : Lib.idxFunc (fun n => !runeOk n) true s = -1 := by
  unfold Lib.idxFunc
  have key : ∀ f pos, Lib.idxFuncFrom (fun n => !runeOk n) true s f pos = -1 := by
    intro f
    induction f with
    | zero => intro pos; rfl
    | succ f ih =>
      intro pos
      unfold Lib.idxFuncFrom
      by_cases hp : pos < s.size
      · rw [if_pos hp]
        have hx : signB s[pos] = true := List.all_eq_true.1 h _ (by rw [← ba_get s pos hp]; exact List.getElem_mem _)
        have hlt : (s[pos]).toNat < 128 := by
          unfold signB at hx
          rcases runeOk_cases s[pos].toNat with ⟨_, hc⟩ | ⟨hb, _⟩
          · omega
          · rw [hb] at hx; cases hx
        rw [decode_ascii s pos hp hlt, if_neg]
        · exact ih _
        · unfold signB at hx
          simp [hx]
      · rw [if_neg hp]
  exact key _ _
theorem nameC_sign {z : Bool} {n : Nat} (h : nameC z n = true) : runeOk n = true := by
  unfold nameC at h
  unfold runeOk
  cases z
  · simp at h ⊢; omega
  · simp at h ⊢; omega
theorem sign_nameC {n : Nat} (h : runeOk n = true) : nameC true n = true := by
  unfold runeOk at h
  unfold nameC
  simp at h ⊢
  omega
theorem nameUpto_all {s : ByteArray} {n : Nat} (h : ∀ i, i < n → nameC (decide (0 < i)) (bt s i) = true) : nameUpto s n = true := by
  unfold nameUpto
  rw [List.all_eq_true]
  intro i hi
  exact h i (List.mem_range.1 hi)
theorem nameUpto_at {s : ByteArray} {n i : Nat} (h : nameUpto s n = true) (hi : i < n) : nameC (decide (0 < i)) (bt s i) = true := List.all_eq_true.1 h i (List.mem_range.2 hi)
theorem nameOk_law (s : ByteArray) (h0 : 0 < s.size) (h12 : s.size ≤ 12) : nameOk s = (letterB s[0] && s.data.toList.all signB) := by
  unfold nameOk
  rw [show decide (1 ≤ s.size) = true by simp; omega, show decide (s.size ≤ 12) = true by simp; omega, Bool.and_self, Bool.and_true]
  have hb0 : bt s 0 = s[0].toNat := bt_get h0
  rw [Bool.eq_iff_iff, Bool.and_eq_true]
  constructor
  · intro h
    constructor
    · have := nameUpto_at h h0
      rw [hb0] at this
      unfold nameC at this
      unfold letterB
      simpa using this
    · rw [List.all_eq_true]
      intro x hx
      obtain ⟨i, hi, rfl⟩ := List.getElem_of_mem hx
      have hi' : i < s.size := by simpa using hi
      have := nameUpto_at h hi'
      rw [bt_get hi'] at this
      exact nameC_sign this
  · intro ⟨h1, h2⟩
    refine nameUpto_all fun i hi => ?_
    rw [bt_get hi]
    by_cases hz : i = 0
    · subst hz
      unfold letterB at h1
      unfold nameC
      rw [h1, Bool.true_or]
    · have hx : signB s[i] = true := List.all_eq_true.1 h2 _ (by rw [← ba_get s i hi]; exact List.getElem_mem _)
      rw [show decide (0 < i) = true by simp; omega]
      exact sign_nameC hx
set_option maxHeartbeats 2000000 in
set_option maxRecDepth 100000 in
theorem rname_any (s : ByteArray) (w : World) (hm : s.size ≤ 9223372036854775807) :
    Calls Tryz.prog 25 #[.string s] w fun e w' => e = .returned (.bool (nameOk s)) ∧ Below w.heap.size w w' := by
  by_cases h0 : s.size = 0
  · have he : s = ⟨#[]⟩ := by apply ByteArray.ext; apply Array.eq_empty_of_size_eq_zero; exact h0
    subst he
    have hn : nameOk ⟨#[]⟩ = false := by rfl
    rw [hn]
    clear hn h0 hm
    go_enter Tryz.func25, Tryz.ntmps25
    go_wp2
    go_ret
    exact ⟨rfl, Below.refl _ _⟩
  have hs1 : s.toList ≠ [] := by
    rw [ByteArray.toList_eq]
    intro e
    have : s.data.toList.length = 0 := by rw [e]; rfl
    rw [Array.length_toList] at this
    exact h0 this
  have hs2 : s.toList.isEmpty = false := by simpa using hs1
  by_cases h12 : 12 < s.size
  · have hn : nameOk s = false := by unfold nameOk; rw [show decide (s.size ≤ 12) = false by simp; omega, Bool.and_false, Bool.and_false]
    have d12 : decide ((12 : Int) < (s.size : Int)) = true := by simp; omega
    rw [hn]
    go_enter Tryz.func25, Tryz.ntmps25
    go_wp2
    go_ret
    exact ⟨rfl, Below.refl _ _⟩
  have d12 : decide ((12 : Int) < (s.size : Int)) = false := by simp; omega
  have hlaw := nameOk_law s (by omega) (by omega)
  obtain ⟨R, hR⟩ : ∃ R, R = nameOk s := ⟨_, rfl⟩
  rw [← hR]
  rw [hlaw] at hR
  have HD := Aside0.mk hR
  clear hR hlaw
  have hex : s.extract 0 1 = ⟨[s[0]].toArray⟩ := by
    apply ByteArray.ext
    rw [ByteArray.data_extract]
    apply Array.toList_inj.1
    rw [Array.toList_extract]
    have hl : s.data.toList = s[0] :: s.data.toList.tail := by
      have := List.drop_eq_getElem_cons (l := s.data.toList) (i := 0) (by simp; exact Nat.pos_of_ne_zero h0)
      rw [List.drop_zero] at this
      rw [this, ba_get s 0 (by omega)]
      rfl
    rw [hl]
    simp [List.extract_eq_take_drop]
  have hle : (1 : Nat) ≤ s.size := by omega
  have t1 := fun W => trimLetters_any [s[0]] W (by simp) (by simp)
  have t2 := fun W => trimSigns_any s.data.toList W (by rw [← ByteArray.toList_eq]; exact hs1) (by simpa using hm)
  rw [← hex] at t1
  rw [ba_list] at t2
  have i1 := isEmpty_of (trimB letterB [s[0]])
  have i2 := isEmpty_of (trimB signB s.data.toList)
  rw [trimB_empty] at i1 i2
  simp only [List.all_cons, List.all_nil, Bool.and_true] at i1
  have hidx := idxFunc_none s
  generalize (⟨(trimB letterB [s[0]]).toArray⟩ : ByteArray) = r1 at *
  generalize (⟨(trimB signB s.data.toList).toArray⟩ : ByteArray) = r2 at *
  generalize letterB s[0] = b1 at *
  generalize s.data.toList.all signB = b2 at *
  have T1 := Aside0.mk t1
  have T2 := Aside0.mk t2
  clear t1 t2 hex
  cases b1
  · have j1 : ¬ r1.toList = [] := by intro e; rw [e] at i1; cases i1
    go_enter Tryz.func25, Tryz.ntmps25
    go_wp2_with (go_at_call 46; (with_reducible refine (T1.out _).mono ?_); rintro e w1 ⟨rfl, hB⟩; have HB1 := Aside0.mk hB; clear hB)
    go_ret
    exact ⟨bool_ret (by rw [HD.out]; rfl), HB1.out⟩
  · have j1 : r1.toList = [] := by simpa using i1
    cases b2
    · have j2 : ¬ r2.toList = [] := by intro e; rw [e] at i2; cases i2
      go_enter Tryz.func25, Tryz.ntmps25
      go_wp2_with (first
        | (go_at_call 46; (with_reducible refine (T1.out _).mono ?_); rintro e w1 ⟨rfl, hB⟩; have HB1 := Aside0.mk hB; clear hB)
        | (go_at_call 46; (with_reducible refine (T2.out _).mono ?_); rintro e w2 ⟨rfl, hB⟩; have HB2 := Aside0.mk (below_call HB1.out hB); clear hB))
      go_ret
      exact ⟨bool_ret (by rw [HD.out]; rfl), HB2.out⟩
    · have j2 : r2.toList = [] := by simpa using i2
      have C := Aside0.mk (fun W => Tryz.strings_ContainsFunc_grows 48 #[] (fun _ _ => by go_simp) (fun n => !runeOk n) s W (fun W' x hx hb => (runeBad_any x W' hx).mono fun e w' ⟨he, hw⟩ => ⟨he, hw ▸ Below.refl _ _⟩))
      rw [hidx rfl] at C
      go_enter Tryz.func25, Tryz.ntmps25
      go_wp2_with (first
        | (go_at_call 46; (with_reducible refine (T1.out _).mono ?_); rintro e w1 ⟨rfl, hB⟩; have HB1 := Aside0.mk hB; clear hB)
        | (go_at_call 46; (with_reducible refine (T2.out _).mono ?_); rintro e w2 ⟨rfl, hB⟩; have HB2 := Aside0.mk (below_call HB1.out hB); clear hB)
        | (go_at_call 47; refine (C.out _).mono ?_; rintro e w3 ⟨rfl, hB⟩; have HB3 := Aside0.mk (below_call HB2.out hB); clear hB))
      go_ret
      exact ⟨bool_ret (by rw [HD.out]; rfl), HB3.out⟩
end Go.Proofs.YtdfgfjnpllncdaaGreatDoor


namespace Go.Proofs.YtdfgfjnpllncdaaGreatDoor.I
open Go.RowKit
set_option linter.unusedVariables false
noncomputable def r62 (x : (kdP [.str]).T) : Option (kdP [.bool]).T := cond (decide (x.1.size ≤ 9223372036854775807)) (some (nameOk x.1, ())) none
noncomputable def r25 (x : (kdP [.str]).T) : Option (kdP [.bool]).T := cond (decide (x.1.size ≤ 9223372036854775807)) (some (nameOk x.1, ())) none
theorem r62_ok {N : Nat} {G : World → Prop} : PureOk Tryz.prog N G 62 [.str] [.bool] r62 := by
  refine pure_of_calls (by kernel_rfl) rfl (fun w x y vals hr hy => ?_) rfl
  obtain ⟨s, ⟨⟩⟩ := x
  have h0 := hr [] (fun _ => none) (fun _ => False)
  obtain ⟨v, vs, rfl, h1, h2⟩ := h0
  have h1 : v = .string s := h1
  have h2 : vs = [] := h2
  subst h1 h2
  unfold r62 at hy
  cases hd : decide (s.size ≤ 9223372036854775807) with
  | false => rw [hd] at hy; cases hy
  | true =>
    rw [hd] at hy
    injection hy with hy
    subst hy
    refine (name_any s w (of_decide_eq_true hd)).mono ?_
    rintro e w' ⟨rfl, rfl⟩
    exact ⟨_, rfl, Below.refl _ _, rfl⟩
theorem r25_ok {N : Nat} {G : World → Prop} : PureOk Tryz.prog N G 25 [.str] [.bool] r25 := by
  refine pure_of_calls (by kernel_rfl) rfl (fun w x y vals hr hy => ?_) rfl
  obtain ⟨s, ⟨⟩⟩ := x
  have h0 := hr [] (fun _ => none) (fun _ => False)
  obtain ⟨v, vs, rfl, h1, h2⟩ := h0
  have h1 : v = .string s := h1
  have h2 : vs = [] := h2
  subst h1 h2
  unfold r25 at hy
  cases hd : decide (s.size ≤ 9223372036854775807) with
  | false => rw [hd] at hy; cases hy
  | true =>
    rw [hd] at hy
    injection hy with hy
    subst hy
    refine (rname_any s w (of_decide_eq_true hd)).mono ?_
    rintro e w' ⟨rfl, hb⟩
    exact ⟨_, rfl, hb, rfl⟩
end Go.Proofs.YtdfgfjnpllncdaaGreatDoor.I

namespace Go.Proofs.YtdfgfjnpllncdaaGreatDoor.I
open Go.RowKit
set_option linter.unusedVariables false
set_option linter.constructorNameAsVariable false
/-- What the calls rely on: the table of the powers of ten. -/
noncomputable def gG (w : World) : Prop := Lib.TabIs Tryz.prog w "internal/strconv.uint64pow10" .u64 Lib.pow10Tab
noncomputable def nG : Nat := match Tryz.prog.globalNamed "internal/strconv.uint64pow10" with
  | some g => g + 1
  | none => 0
theorem stays_G : Stays nG gG := by
  intro w w' h hg
  unfold gG Lib.TabIs World.var? at hg ⊢
  cases hn : Tryz.prog.globalNamed "internal/strconv.uint64pow10" with
  | none => rw [hn] at hg; cases hg
  | some g =>
    rw [hn] at hg
    simp only [Option.bind_some] at hg ⊢
    rw [h g (by unfold nG; rw [hn]; simp)]
    exact hg
theorem nG_le {w : World} (h : gG w) : nG ≤ w.heap.size := by
  unfold gG Lib.TabIs World.var? at h
  unfold nG
  cases hn : Tryz.prog.globalNamed "internal/strconv.uint64pow10" with
  | none => exact Nat.zero_le _
  | some g =>
    rw [hn] at h
    simp only [Option.bind_some] at h
    split at h
    · rename_i hb
      exact heap_lt hb
    · cases h
/-- What the calls rely on tells the table of the powers of ten. -/
class HasP (G : World → Prop) : Prop where
  h : ∀ w, G w → gG w
instance : HasP gG := ⟨fun _ h => h⟩
theorem below_grown (w : World) (k : Nat) (os : Array Obj) : Below w.heap.size w (Sort.grow (w.drewN k) os) := by
  refine Below.trans (b := w.drewN k) ?_ ⟨rfl, rfl, rfl, ?_, fun i hi => ?_⟩
  · exact ⟨rfl, rfl, rfl, Nat.le_refl _, fun _ _ => rfl⟩
  · show w.heap.size ≤ (w.heap ++ os).size
    rw [Array.size_append]; omega
  · show (w.heap ++ os)[i]? = _
    rw [Array.getElem?_append_left hi]
    rfl
def i64B (x : Int) : Bool := decide (-9223372036854775808 ≤ x ∧ x ≤ 9223372036854775807)
noncomputable def r93 (x : (kdP [(.int .i64)]).T) : Option (kdP [.str]).T := cond (i64B x.1) (some (⟨(Lib.itoa x.1).toArray⟩, ())) none
theorem r93_ok {N : Nat} {G : World → Prop} [HasP G] : PureOk Tryz.prog N G 93 [(.int .i64)] [.str] r93 := by
  refine ⟨by kernel_rfl, fun X w x y vals hX hG hN hr hy => ?_⟩
  obtain ⟨n, ⟨⟩⟩ := x
  obtain ⟨v, vs, rfl, h1, h2⟩ := hr
  have h1 : v = .int .i64 n := h1
  have h2 : vs = [] := h2
  subst h1 h2
  unfold r93 at hy
  cases hd : i64B n with
  | false => rw [hd] at hy; cases hy
  | true =>
    rw [hd] at hy
    injection hy with hy
    subst hy
    obtain ⟨g0, g1⟩ := of_decide_eq_true hd
    refine (Tryz.strconv_Itoa n g0 g1 w (HasP.h w hG)).mono ?_
    rintro e w' ⟨rfl, k, os, rfl⟩
    exact ⟨_, rfl, chg_of_below (below_grown w k os), rfl⟩
noncomputable def r56 (x : (kdP [(.int .i64), (.int .i64)]).T) : Option (kdP [.str]).T := cond (i64B x.1 && decide (x.2.1 = 10)) (some (⟨(Lib.itoa x.1).toArray⟩, ())) none
noncomputable def r94 (x : (kdP [.bool]).T) : Option (kdP [.str]).T := some (⟨(Lib.formatBool x.1).toArray⟩, ())
theorem r94_ok {N : Nat} {G : World → Prop} : PureOk Tryz.prog N G 94 [.bool] [.str] r94 := by
  refine ⟨by kernel_rfl, fun X w x y vals hX hG hN hr hy => ?_⟩
  obtain ⟨n, ⟨⟩⟩ := x
  obtain ⟨v, vs, rfl, h1, h2⟩ := hr
  have h1 : v = .bool n := h1
  have h2 : vs = [] := h2
  subst h1 h2
  injection hy with hy
  subst hy
  refine (Tryz.strconv_FormatBool n w).mono ?_
  rintro e w' ⟨rfl, rfl⟩
  exact ⟨_, rfl, Chg.refl _ _, rfl⟩
def joinB (xs : List ByteArray) (sep : ByteArray) : List UInt8 := Lib.join (xs.map (·.data.toList)) sep.data.toList
noncomputable def r34 (x : (kdP [(.slice .str), .str]).T) : Option (kdP [.str]).T := cond (decide (List.length (α := ByteArray) x.1 ≤ 140737488355328 ∧ (joinB x.1 x.2.1).length ≤ 140737488355328)) (some (⟨(joinB x.1 x.2.1).toArray⟩, ())) none
theorem r34_ok {N : Nat} {G : World → Prop} : PureOk Tryz.prog N G 34 [(.slice .str), .str] [.str] r34 := by
  refine ⟨by kernel_rfl, fun X w x y vals hX hG hN hr hy => ?_⟩
  obtain ⟨xs, sep, ⟨⟩⟩ := x
  obtain ⟨v, vs, rfl, h1, v2, vs2, rfl, h2, h3⟩ := hr
  have h2 : v2 = .string sep := h2
  have h3 : vs2 = [] := h3
  subst h2 h3
  have h1 : sliceRep w X (rep w X .str) xs v := h1
  unfold r34 at hy
  cases hd : decide (List.length (α := ByteArray) xs ≤ 140737488355328 ∧ (joinB xs sep).length ≤ 140737488355328) with
  | false => simp only [hd] at hy; cases hy
  | true =>
    simp only [hd, cond_true] at hy
    injection hy with hy
    subst hy
    obtain ⟨g0, g1⟩ := of_decide_eq_true hd
    obtain ⟨A, cap, rfl, hc, hne⟩ := h1
    by_cases hx : xs = []
    · subst hx
      refine (Tryz.strings_Join_none A cap sep w).mono ?_
      rintro e w' ⟨rfl, rfl⟩
      exact ⟨_, rfl, Chg.refl _ _, rfl⟩
    · obtain ⟨ad, rfl, hsp, _, c, t, fr, hb, hreps⟩ := hne hx
      obtain ⟨ab, ao, asp⟩ := ad
      simp only at hsp hb hreps
      subst hsp
      refine (Tryz.strings_Join ab ao cap xs sep w (fun j x hj => ?_) (heap_lt hb) g0 hc g1).mono ?_
      · obtain ⟨u, k1, k2⟩ := reps_at (fun x u hh => rep_len hh) hreps hj
        simp only [rep] at k1
        subst k1
        rw [cell_blk hb]
        simp only [Kd.wd, Nat.mul_one] at k2
        have : ((c.toList.drop ao).drop j)[0]? = some (.string x) := by
          have := congrArg (fun l => l[0]?) k2
          simp only [List.getElem?_take] at this
          simpa using this
        simpa using this
      · rintro e w' ⟨rfl, hbl⟩
        exact ⟨_, rfl, chg_of_below hbl, rfl⟩
end Go.Proofs.YtdfgfjnpllncdaaGreatDoor.I

namespace Go.Proofs.YtdfgfjnpllncdaaGreatDoor.I
open Go.RowKit
set_option linter.unusedVariables false
/-- A new row under a new label: in a new block, or none at all. -/
theorem post_fresh {X : Nat → Prop} {h : Hp} {φ : Lab} {w w' : World} (hs : Sat X h φ w) {f : Nat} (hf : h.get f = none) {e : Kd} {ys : List e.T} {v : Value} {t : TypeId} {news : List Value} (hb : Below w.heap.size w w')
    (ho : w'.ownsRow w.heap.size t e.wd v ys.length news) (hr : reps (rep w (MB X h φ) e) ys news) (hfb : rowT e t = true) :
    ∃ φ', Post X h φ w ((f, .arr e ys true) :: h) φ' w' ∧ repV ((f, .arr e ys true) :: h) φ' w' (MB X ((f, .arr e ys true) :: h) φ') (.own f) v := by
  have hlt : ∀ l B b, h.get l = some B → B.mutl = true → φ l = some b → b < w.heap.size := fun l B b h1 h2 h3 => own_lt hs ⟨l, B, h1, h2, h3⟩
  have hchg : Chg (fun _ => False) w w' := chg_of_below hb
  have hold : ∀ b, b < w.heap.size → w'.heap[b]? = w.heap[b]? := fun b hlt => hb.block b hlt
  obtain ⟨hl, ho⟩ := ho
  rcases ho with ⟨rfl, h0⟩ | ⟨g, cap, cur, rfl, hg, hcell, hn, hcap, hsz, htk⟩
  · have hy : ys = [] := List.eq_nil_of_length_eq_zero h0
    subst hy
    have hφ := hs.non f hf
    refine ⟨φ, ?_, ?_⟩
    · refine post_of hs (fun _ _ => rfl) (fun l B' hl => ⟨B', ?_, Later.refl _⟩) (hchg.mono (fun _ hf => hf.elim)) ?_ ?_ ?_ ?_ ?_
      · rw [Hp.get_cons, if_neg (fun e => by subst e; rw [hf] at hl; cases hl)]; exact hl
      · rintro b ⟨l, B', h1, h2, h3⟩
        rw [Hp.get_cons] at h1
        by_cases e : f = l
        · subst e; rw [hφ] at h3; cases h3
        · rw [if_neg e] at h1; exact .inl ⟨l, B', h1, h2, h3⟩
      · intro hu l B' hl
        rw [Hp.get_cons] at hl
        by_cases e : f = l
        · subst e; rw [if_pos rfl] at hl; injection hl with hl; subst hl
          exact .inr (.inl ⟨hφ, rfl⟩)
        · rw [if_neg e] at hl
          rcases blk_lt hs hl with rfl | hbl
          · exact .inr trivial
          · exact .inl ⟨hl, fun b hb => hold b (hbl b hb)⟩
      · intro l l' B1 B2 b h1 h2 m1 m2 e1 e2
        rw [Hp.get_cons] at h1 h2
        by_cases p : f = l
        · subst p; rw [hφ] at e1; cases e1
        · by_cases q : f = l'
          · subst q; rw [hφ] at e2; cases e2
          · rw [if_neg p] at h1; rw [if_neg q] at h2
            exact hs.inj _ _ _ _ _ h1 h2 m1 m2 e1 e2
      · intro l e xs b hl hb
        rw [Hp.get_cons] at hl
        by_cases p : f = l
        · rw [if_pos p] at hl; injection hl with hl; cases hl
        · rw [if_neg p] at hl; exact .inl hl
      · intro l hl
        rw [Hp.get_cons] at hl
        by_cases p : f = l
        · rw [if_pos p] at hl; cases hl
        · rw [if_neg p] at hl; exact hs.non l hl
    · simp only [repV]
      refine ⟨none, 0, 0, rfl, by rw [Hp.get_cons, if_pos rfl]; simp, fun e' xs o hB => ?_⟩
      rw [Hp.get_cons, if_pos rfl] at hB
      injection hB with hB
      injection hB with q1 q2 q3
      subst q1
      have q2 := eq_of_heq q2
      subst q2
      exact ⟨rfl, Nat.le_refl _, by rw [hφ]; rfl, fun _ => rfl, fun b hb => by rw [hφ] at hb; cases hb⟩
  · refine ⟨φ.set f g, ?_, ?_⟩
    · refine post_of hs (fun l hl => Lab.set_ne (fun e => hl (e ▸ hf))) (fun l B' hl => ⟨B', ?_, Later.refl _⟩) (hchg.mono (fun _ hf => hf.elim)) ?_ ?_ ?_ ?_ ?_
      · rw [Hp.get_cons, if_neg (fun e => by subst e; rw [hf] at hl; cases hl)]; exact hl
      · rintro b ⟨l, B', h1, h2, h3⟩
        rw [Hp.get_cons] at h1
        by_cases e : f = l
        · subst e; rw [Lab.set_eq] at h3; injection h3 with h3; exact .inr (by omega)
        · rw [if_neg e] at h1; rw [Lab.set_ne (Ne.symm e)] at h3; exact .inl ⟨l, B', h1, h2, h3⟩
      · intro hu l B' hl
        rw [Hp.get_cons] at hl
        by_cases e : f = l
        · subst e; rw [if_pos rfl] at hl; injection hl with hl; subst hl
          refine .inr (.inr ⟨g, cur, t, (0, 0), Lab.set_eq _ _ _, hcell, frRow_new hfb, ?_⟩)
          have hpre : news <+: cur.toList := ⟨cur.toList.drop (ys.length * e.wd), by rw [← htk]; exact List.take_append_drop _ _⟩
          exact reps_prefix (fun x u hh => rep_len hh) (reps_imp (fun x _ u gg => rep_keeps hu.keeps gg) hr) ((List.take_prefix _ _).trans hpre)
        · rw [if_neg e] at hl
          rcases blk_lt hs hl with rfl | hbl
          · exact .inr trivial
          · exact .inl ⟨hl, fun b hb => hold b (hbl b hb)⟩
      · intro l l' B1 B2 b h1 h2 m1 m2 e1 e2
        rw [Hp.get_cons] at h1 h2
        by_cases p : f = l <;> by_cases q : f = l'
        · exact p.symm.trans q
        · subst p; rw [if_neg q] at h2; rw [Lab.set_ne (Ne.symm q)] at e2; rw [Lab.set_eq] at e1; injection e1 with e1
          have := hlt _ _ _ h2 m2 e2; omega
        · subst q; rw [if_neg p] at h1; rw [Lab.set_ne (Ne.symm p)] at e1; rw [Lab.set_eq] at e2; injection e2 with e2
          have := hlt _ _ _ h1 m1 e1; omega
        · rw [if_neg p] at h1; rw [if_neg q] at h2; rw [Lab.set_ne (Ne.symm p)] at e1; rw [Lab.set_ne (Ne.symm q)] at e2
          exact hs.inj _ _ _ _ _ h1 h2 m1 m2 e1 e2
      · intro l e xs b hl hb
        rw [Hp.get_cons] at hl
        by_cases p : f = l
        · rw [if_pos p] at hl; injection hl with hl; cases hl
        · rw [if_neg p] at hl; exact .inl hl
      · intro l hl
        rw [Hp.get_cons] at hl
        by_cases p : f = l
        · rw [if_pos p] at hl; cases hl
        · rw [if_neg p] at hl; rw [Lab.set_ne (Ne.symm p)]; exact hs.non l hl
    · simp only [repV]
      refine ⟨some ⟨g, 0, none⟩, ys.length, cap, rfl, by rw [Hp.get_cons, if_pos rfl]; simp, fun e' xs o hB => ?_⟩
      rw [Hp.get_cons, if_pos rfl] at hB
      injection hB with hB
      injection hB with q1 q2 q3
      subst q1
      have q2 := eq_of_heq q2
      subst q2
      refine ⟨rfl, hn, by rw [Lab.set_eq]; rfl, fun hh => (by rw [Lab.set_eq] at hh; cases hh), fun b hb => ?_⟩
      rw [Lab.set_eq] at hb
      injection hb with hb
      subst hb
      exact ⟨cur, t, _, hcell, by omega⟩

/-- A function of plain data that returns a row of its own, as the walk calls it. -/
def freshSpec (ps : List Kd) (e : Kd) (raw : (kdP ps).T → Option (List e.T)) : Spec := fun us fr => match (flatV us).all AV.one with
  | true => frees (flatV us) fun cs ws => match encVs ps us cs with
    | some x => .opt (raw x) fun ys => .ret (.own fr) ((fr, .arr e ys true) :: ws)
    | none => .fail
  | false => .fail
structure FreshOk (P : Program) (N : Nat) (G : World → Prop) (g : FuncId) (ps : List Kd) (e : Kd) (raw : (kdP ps).T → Option (List e.T)) : Prop where
  enters : enters P g = true
  calls : ∀ (X : Nat → Prop) (w : World) (x : (kdP ps).T) (ys : List e.T) (vals : List Value), (∀ b, X b → b < w.heap.size) → G w → N ≤ w.heap.size → repVs [] (fun _ => none) w X (argsA ps x) vals → raw x = some ys →
    Calls P g vals.toArray w fun ex w' => ∃ v t news, ex = .returned v ∧ Below w.heap.size w w' ∧ w'.ownsRow w.heap.size t e.wd v ys.length news ∧ reps (rep w X e) ys news ∧ rowT e t = true
section
variable {P : Program} {N : Nat} {G : World → Prop}
theorem FreshOk.spec {g : FuncId} {ps : List Kd} {e : Kd} {raw : (kdP ps).T → Option (List e.T)} (hp : FreshOk P N G g ps e raw) : SpecOk P N G g (freshSpec ps e raw) := by
  refine ⟨hp.enters, fun X h φ w us vals fr v ws tm hs hE hr hfr he => ?_⟩
  unfold freshSpec at he
  split at he
  · rename_i hone
    obtain ⟨cs, fws, he, hfre, _, hlen⟩ := frees_ok (X := X) (φ := φ) (w := w) he
    split at he
    · rename_i x hx
      rw [eval_opt] at he
      split at he
      · rename_i ys hy
        simp only [RM.eval, Option.some.injEq, Prod.mk.injEq] at he
        obtain ⟨rfl, rfl⟩ := he
        have hps := hfre.post hs
        have hcs := hfre.vals hs _ (flat_rep hone hr) _ _ _ _ (Up.refl _ _ _ _)
        have hargs := encVs_rep hx hone hr hcs
        have hargs0 : repVs [] (fun _ => none) w (MB X (fws ++ h) φ) (argsA ps x) vals := argsAs_up (Keeps.refl _ _) _ _ (fun p => argsA_nolab p ps x) hargs
        have hf0 : (fws ++ h : Hp).get fr = none := by
          rw [hfre.get]
          have h0 := hfr fr (Nat.le_refl _) (by omega)
          cases hq : (fws : Hp).get fr with
          | none => exact h0
          | some B =>
            obtain ⟨e', xs', o', -, h2⟩ := hfre.only fr B hq
            rw [h0] at h2; cases h2
        refine (hp.calls (MB X (fws ++ h) φ) w x ys vals (fun b hb => ?_) hE.g hE.n hargs0 hy).mono fun ex w' ⟨u, t, news, h1, h2, h3, h4, h5⟩ => ?_
        · rcases hb with hb | hb
          · exact hs.xlt b hb
          · exact own_lt hps.sat hb
        · obtain ⟨φ', h6, h7⟩ := post_fresh hps.sat hf0 h2 h3 h4 h5
          exact ⟨u, φ', h1, hps.trans h6, h7⟩
      · cases he
    · cases he
  · cases he
end
end Go.Proofs.YtdfgfjnpllncdaaGreatDoor.I

namespace Go.Proofs.YtdfgfjnpllncdaaGreatDoor.I
open Go.RowKit
set_option linter.unusedVariables false
set_option linter.constructorNameAsVariable false
/-- The table of the spaces. -/
noncomputable def gF (w : World) : Prop := Lib.TabIs Tryz.prog w "strings.asciiSpace" .u8 Lib.asciiSpaceTab
noncomputable def nF : Nat := match Tryz.prog.globalNamed "strings.asciiSpace" with
  | some g => g + 1
  | none => 0
theorem stays_F : Stays nF gF := by
  intro w w' h hg
  unfold gF Lib.TabIs World.var? at hg ⊢
  cases hn : Tryz.prog.globalNamed "strings.asciiSpace" with
  | none => rw [hn] at hg; cases hg
  | some g =>
    rw [hn] at hg
    simp only [Option.bind_some] at hg ⊢
    rw [h g (by unfold nF; rw [hn]; simp)]
    exact hg
theorem nF_le {w : World} (h : gF w) : nF ≤ w.heap.size := by
  unfold gF Lib.TabIs World.var? at h
  unfold nF
  cases hn : Tryz.prog.globalNamed "strings.asciiSpace" with
  | none => exact Nat.zero_le _
  | some g =>
    rw [hn] at h
    simp only [Option.bind_some] at h
    split at h
    · rename_i hb
      exact heap_lt hb
    · cases h
/-- What the calls rely on tells the table of the spaces. -/
class HasF (G : World → Prop) : Prop where
  h : ∀ w, G w → gF w
instance : HasF gF := ⟨fun _ h => h⟩
noncomputable def r69 (x : (kdP [.str, (.int .u8)]).T) : Option (kdP [(.int .i64)]).T := some (Lib.indexByte x.1.data.toList x.2.1.toNat.toUInt8, ())
theorem r69_ok {N : Nat} {G : World → Prop} : PureOk Tryz.prog N G 69 [.str, (.int .u8)] [(.int .i64)] r69 := by
  refine ⟨by kernel_rfl, fun X w x y vals hX hG hN hr hy => ?_⟩
  obtain ⟨a, b, ⟨⟩⟩ := x
  obtain ⟨v, vs, rfl, h1, v2, vs2, rfl, h2, h3⟩ := hr
  have h1 : v = .string a := h1
  have h2 : v2 = .int .u8 b := h2
  have h3 : vs2 = [] := h3
  subst h1 h2 h3
  injection hy with hy
  subst hy
  refine (Tryz.strings_IndexByte a b w).mono ?_
  rintro e w' ⟨rfl, rfl⟩
  exact ⟨_, rfl, Chg.refl _ _, rfl⟩
/-- The byte of a text of one byte. -/
def oneByte (s : ByteArray) : Option UInt8 := match s.data.toList with
  | [c] => some c
  | _ => none
theorem oneByte_eq {s : ByteArray} {c : UInt8} (h : oneByte s = some c) : s = ⟨#[c]⟩ := by
  obtain ⟨⟨l⟩⟩ := s
  match l, h with
  | [d], h =>
    injection h with h
    rw [h]
noncomputable def r65 (x : (kdP [.str, .str]).T) : Option (kdP [.str]).T := Option.bind (oneByte x.2.1) fun c => cond (decide (c.toNat < 128)) (some (⟨(Lib.trimLeftB x.1.data.toList c).toArray⟩, ())) none
theorem r65_ok {N : Nat} {G : World → Prop} : PureOk Tryz.prog N G 65 [.str, .str] [.str] r65 := by
  refine ⟨by kernel_rfl, fun X w x y vals hX hG hN hr hy => ?_⟩
  obtain ⟨a, b, ⟨⟩⟩ := x
  obtain ⟨v, vs, rfl, h1, v2, vs2, rfl, h2, h3⟩ := hr
  have h1 : v = .string a := h1
  have h2 : v2 = .string b := h2
  have h3 : vs2 = [] := h3
  subst h1 h2 h3
  unfold r65 at hy
  obtain ⟨c, hc, hy⟩ := Option.bind_eq_some_iff.1 hy
  obtain rfl := oneByte_eq hc
  cases hd : decide (c.toNat < 128) with
  | false => rw [hd] at hy; cases hy
  | true =>
    rw [hd] at hy
    injection hy with hy
    subst hy
    refine (Tryz.strings_TrimLeft_one a c (of_decide_eq_true hd) w).mono ?_
    rintro e w' ⟨rfl, rfl⟩
    exact ⟨_, rfl, Chg.refl _ _, rfl⟩
def asciiS (s : ByteArray) : Bool := s.data.toList.all fun b => decide (b.toNat < 128)
def fieldsS (s : ByteArray) : List ByteArray := (Lib.fields s.data.toList).map fun l => ⟨l.toArray⟩
noncomputable def r50 (x : (kdP [.str]).T) : Option (kdP [(.slice .str)]).T := cond (decide (x.1.size < 4294967281) && asciiS x.1) (some (fieldsS x.1, ())) none
theorem reps_strs {w : World} {X : Nat → Prop} : ∀ (xs : List ByteArray) (vs : List Value), reps (rep w X .str) xs ((xs.map Value.string) ++ vs)
  | [], _ => trivial
  | x :: xs, vs => ⟨[.string x], xs.map Value.string ++ vs, rfl, rfl, reps_strs xs vs⟩
theorem r50_ok {N : Nat} {G : World → Prop} [HasF G] : PureOk Tryz.prog N G 50 [.str] [(.slice .str)] r50 := by
  refine ⟨by kernel_rfl, fun X w x y vals hX hG hN hr hy => ?_⟩
  obtain ⟨a, ⟨⟩⟩ := x
  obtain ⟨v, vs, rfl, h1, h3⟩ := hr
  have h1 : v = .string a := h1
  have h3 : vs = [] := h3
  subst h1 h3
  unfold r50 at hy
  cases hd : (decide (a.size < 4294967281) && asciiS a) with
  | false => simp only [hd] at hy; cases hy
  | true =>
    simp only [hd, cond_true] at hy
    injection hy with hy
    subst hy
    simp only [Bool.and_eq_true, decide_eq_true_eq] at hd
    refine (Tryz.strings_Fields a w hd.1 (fun j b hj => of_decide_eq_true (List.all_eq_true.1 hd.2 b (List.mem_of_getElem? hj))) (HasF.h w hG)).mono ?_
    rintro e w' ⟨rfl, rfl⟩
    have hnew := heap_alloc_new w (.cells ((Lib.fields a.data.toList).map fun l => Value.string ⟨l.toArray⟩).toArray 9)
    refine ⟨_, rfl, chg_of_below ((Below.refl w.heap.size w).alloc (Nat.le_refl _) _), ?_⟩
    simp only [resA, argsA, repV]
    refine ⟨some ⟨w.heap.size, 0, none⟩, (Lib.fields a.data.toList).length, ?_, ?_, fun _ => ⟨_, rfl, rfl, fun hx => ?_, _, _, _, hnew, ?_⟩⟩
    · simp [fieldsS]
    · simp [fieldsS]
    · have := hX _ hx
      simp at this
    · simp only [List.drop_zero]
      have e : ((Lib.fields a.data.toList).map fun l => Value.string ⟨l.toArray⟩) = (fieldsS a).map Value.string ++ [] := by simp [fieldsS, List.map_map, Function.comp_def]
      rw [e]
      exact reps_strs _ _
end Go.Proofs.YtdfgfjnpllncdaaGreatDoor.I

namespace Go.Proofs.YtdfgfjnpllncdaaGreatDoor.I
open Go.RowKit
set_option linter.unusedVariables false
set_option linter.constructorNameAsVariable false
/-- A variable that holds an error. -/
def errVar (n : String) (w : World) : Prop := ∃ tp p, w.var? Tryz.prog n = some #[.iface tp p]
noncomputable def nOf (n : String) : Nat := match Tryz.prog.globalNamed n with
  | some g => g + 1
  | none => 0
theorem var_stays {n : String} {cs : Array Value} {N : Nat} {w w' : World} (h : ∀ b, b < N → w'.heap[b]? = w.heap[b]?) (hN : nOf n ≤ N) (hv : w.var? Tryz.prog n = some cs) : w'.var? Tryz.prog n = some cs := by
  unfold World.var? at hv ⊢
  cases hn : Tryz.prog.globalNamed n with
  | none => rw [hn] at hv; cases hv
  | some g =>
    rw [hn] at hv
    simp only [Option.bind_some] at hv ⊢
    rw [h g (by unfold nOf at hN; rw [hn] at hN; simp only at hN; omega)]
    exact hv
theorem nOf_le {n : String} {cs : Array Value} {w : World} (hv : w.var? Tryz.prog n = some cs) : nOf n ≤ w.heap.size := by
  unfold World.var? at hv
  unfold nOf
  cases hn : Tryz.prog.globalNamed n with
  | none => exact Nat.zero_le _
  | some g =>
    rw [hn] at hv
    simp only [Option.bind_some] at hv
    split at hv
    · rename_i hb
      exact heap_lt hb
    · cases hv
structure gA (w : World) : Prop where
  f : gF w
  p : gG w
  syn : errVar "strconv.ErrSyntax" w
  rng : errVar "strconv.ErrRange" w
noncomputable def nA : Nat := max (max nF nG) (max (nOf "strconv.ErrSyntax") (nOf "strconv.ErrRange"))
theorem stays_A : Stays nA gA := by
  intro w w' h hg
  have h1 : nF ≤ nA := by unfold nA; omega
  have h2 : nG ≤ nA := by unfold nA; omega
  have h3 : nOf "strconv.ErrSyntax" ≤ nA := by unfold nA; omega
  have h4 : nOf "strconv.ErrRange" ≤ nA := by unfold nA; omega
  refine ⟨stays_F w w' (fun b hb => h b (by omega)) hg.f, stays_G w w' (fun b hb => h b (by omega)) hg.p, ?_, ?_⟩
  · obtain ⟨tp, p, hv⟩ := hg.syn
    exact ⟨tp, p, var_stays h h3 hv⟩
  · obtain ⟨tp, p, hv⟩ := hg.rng
    exact ⟨tp, p, var_stays h h4 hv⟩
theorem nA_le {w : World} (h : gA w) : nA ≤ w.heap.size := by
  have h1 := nF_le h.f
  have h2 := nG_le h.p
  obtain ⟨_, _, hv⟩ := h.syn
  have h3 := nOf_le hv
  obtain ⟨_, _, hv⟩ := h.rng
  have h4 := nOf_le hv
  unfold nA
  omega
class HasE (G : World → Prop) : Prop where
  syn : ∀ w, G w → errVar "strconv.ErrSyntax" w
  rng : ∀ w, G w → errVar "strconv.ErrRange" w
instance : HasF gA := ⟨fun _ h => h.f⟩
instance : HasP gA := ⟨fun _ h => h.p⟩
instance : HasE gA := ⟨fun _ h => h.syn, fun _ h => h.rng⟩
theorem below_froze {B : Nat} {w0 w : World} (h : Below B w0 w) {a : Addr} (ha : B ≤ a.block) (n : Nat) : Below B w0 (w.freeze a n) := by
  unfold World.freeze
  by_cases hn : n = 0
  · rw [if_pos hn]; exact h
  · rw [if_neg hn]
    refine h.trans ⟨rfl, rfl, rfl, by simp, fun i hi => ?_⟩
    simp only [Array.getElem?_modify]
    rw [if_neg (by omega)]
theorem below_byteW (w : World) (e : TypeId) (t : ByteArray) : Below w.heap.size w (Lib.bytesWorld w e t) := by
  unfold Lib.bytesWorld
  have h1 : Below w.heap.size w (w.drew.alloc (.cells (Lib.bytesCells w e t) e)) := ((Below.refl w.heap.size w).drew).alloc (Nat.le_refl _) _
  exact below_froze h1 (Nat.le_refl _) 1
/-- Atoi: the number, and whether there is an error. -/
def atoiR (s : ByteArray) : Int × Bool := match Lib.atoiAll s.data.toList with
  | .ok v => (v, false)
  | .range => (Lib.atoiSat s.data.toList, true)
  | _ => (0, true)
noncomputable def r105 (x : (kdP [.str]).T) : Option (kdP [(.int .i64), .err]).T := cond (decide (x.1.size ≤ 281474976710656)) (some ((atoiR x.1).1, ((atoiR x.1).2, ()))) none
theorem r105_ok {N : Nat} {G : World → Prop} [HasE G] : PureOk Tryz.prog N G 105 [.str] [(.int .i64), .err] r105 := by
  refine ⟨by kernel_rfl, fun X w x y vals hX hG hN hr hy => ?_⟩
  obtain ⟨s, ⟨⟩⟩ := x
  obtain ⟨v, vs, rfl, h1, h3⟩ := hr
  have h1 : v = .string s := h1
  have h3 : vs = [] := h3
  subst h1 h3
  unfold r105 at hy
  cases hd : decide (s.size ≤ 281474976710656) with
  | false => simp only [hd] at hy; cases hy
  | true =>
    simp only [hd, cond_true] at hy
    injection hy with hy
    subst hy
    have hs : s.size ≤ 281474976710656 := of_decide_eq_true hd
    unfold atoiR
    cases h : Lib.atoiAll s.data.toList
    · rename_i v
      refine (Tryz.strconv_Atoi_ok s (by omega) v h w).mono ?_
      rintro e w' ⟨rfl, hw⟩
      refine ⟨_, rfl, ?_, ?_⟩
      · rcases hw with rfl | ⟨t, rfl⟩
        · exact Chg.refl _ _
        · exact chg_of_below (below_byteW _ _ _)
      · simp only [resA, argsA, repV, repVs, Kd.val, Kd.isAgg]
        exact ⟨_, rfl, _, _, rfl, rfl, _, _, rfl, rfl, rfl⟩
    · obtain ⟨tp, p, hv⟩ := HasE.syn w hG
      refine (Tryz.strconv_Atoi_syntax_var s hs (by rw [h]; exact fun v hc => by cases hc) (by rw [h]; exact fun hc => by cases hc) tp p w hv).mono ?_
      rintro e w' ⟨N', rfl, _, _, hb⟩
      refine ⟨_, rfl, chg_of_below hb, ?_⟩
      simp only [resA, argsA, repV, repVs, Kd.val, Kd.isAgg]
      exact ⟨_, rfl, _, _, rfl, rfl, _, _, rfl, ⟨_, _, rfl⟩, rfl⟩
    · obtain ⟨tp, p, hv⟩ := HasE.rng w hG
      refine (Tryz.strconv_Atoi_range_var s hs h tp p w hv).mono ?_
      rintro e w' ⟨N', rfl, _, _, hb⟩
      refine ⟨_, rfl, chg_of_below hb, ?_⟩
      simp only [resA, argsA, repV, repVs, Kd.val, Kd.isAgg]
      exact ⟨_, rfl, _, _, rfl, rfl, _, _, rfl, ⟨_, _, rfl⟩, rfl⟩
end Go.Proofs.YtdfgfjnpllncdaaGreatDoor.I
