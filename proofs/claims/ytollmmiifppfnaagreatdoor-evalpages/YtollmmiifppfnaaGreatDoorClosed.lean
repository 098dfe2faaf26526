/- A part of the proof: the abstract machine and what it shows of the program. -/
import Derived.Test.YtollmmiifppfnaaGreatDoorBuild

/- Grams and Build at arguments that are written out; alive. -/
set_option maxRecDepth 100000
set_option linter.unusedVariables false
set_option linter.unusedSimpArgs false
namespace Go.Proofs.Tryz.Am
open Go Go.Am Go.Proofs
noncomputable section

def kvOk : AV × AV → Bool
  | (.int .i64 _, .snap _ _) => true
  | _ => false

theorem kvOk_spec {es : List (AV × AV)} (h : es.all kvOk = true) : ∀ e ∈ es, ∃ c m cs, e = (.int .i64 c, .snap m cs) := by
  intro e he
  have := List.all_eq_true.1 h e he
  unfold kvOk at this
  split at this
  · exact ⟨_, _, _, rfl⟩
  · cases this

/-- The order of the keys, by the program's own comparison. -/
def orderO (run : CallF) (g : FuncId) (es : List (AV × AV)) : List Nat :=
  sortL (fun a b => match cmpO run g 2 (kvCells es) [] a b with | some c => decide (c < 0) | none => false) (List.range es.length)

def goodO (run : CallF) (g : FuncId) (es : List (AV × AV)) : Bool :=
  es.all kvOk && Nat.ble es.length 1000000000 && (orderO run g es).isPerm (List.range es.length) && allCmp (cmpO run g 2 (kvCells es) []) (orderO run g es)

def builtO (run : CallF) (g : FuncId) (es : List (AV × AV)) : AV := if es.length = 0 then .nil0 else .snap es.length ((orderO run g es).flatMap fun j => chunk 2 j (kvCells es))

theorem goodO_spec {run : CallF} (hrun : CfOK Tryz.prog run) {g : FuncId} {es : List (AV × AV)} (h : goodO run g es = true) : (∀ e ∈ es, ∃ c m cs, e = (.int .i64 c, .snap m cs)) ∧ es.length ≤ 1000000000 ∧ (orderO run g es).Perm (List.range es.length) ∧
    ∀ (i j a b : Nat), (orderO run g es)[i]? = some a → (orderO run g es)[j]? = some b → ∃ c : Int, CallsF Tryz.prog g [.agg (chunk 2 a (kvCells es)), .agg (chunk 2 b (kvCells es))] (.int .i64 c) ∧ (c < 0 ↔ i < j) := by
  simp only [goodO, Bool.and_eq_true] at h
  obtain ⟨⟨⟨h1, h2⟩, h3⟩, h4⟩ := h
  refine ⟨kvOk_spec h1, Nat.le_of_ble_eq_true h2, List.isPerm_iff.1 h3, fun i j a b hi hj => ?_⟩
  obtain ⟨c, hc, hlt⟩ := allCmp_spec h4 hi hj
  exact ⟨c, cmpO_ok hrun hc, hlt⟩

def gramsV : List AV → Option AV
  | [.str s] => match runF E1 40 31 [.str s] [] with
    | some (.mref mid, σ0) => match σ0[mid]? with
      | some ⟨_, .map es0⟩ => match frzL (frz 24) σ0 (es0.map (·.2)) with
        | some (vs, _) => if goodO (runF E1 40) 33 (zipV es0 vs) = true then some (builtO (runF E1 40) 33 (zipV es0 vs)) else none
        | none => none
      | _ => none
    | _ => none
  | _ => none

theorem gramsV_ok (args : List AV) (v : AV) (h : gramsV args = some v) : CallsF Tryz.prog 16 args v := by
  unfold gramsV at h
  split at h
  · rename_i s
    split at h
    · rename_i mid σ0 h31
      split at h
      · rename_i ver es0 hm
        split at h
        · rename_i vs σz hz
          split at h
          · rename_i hg
            cases h
            have hrun := runF_ok E1_ok 40
            obtain ⟨g1, g2, g3, g4⟩ := goodO_spec hrun hg
            exact grams_q hrun s h31 hm hz rfl g1 g2 g3 g4
          · cases h
        · cases h
      · cases h
    · cases h
  · cases h

def ovr2 (f : FuncId) : Option (List AV → Option AV) := if f = 16 then some gramsV else none

def E2 : Env := { E1 with ovr := ovr2 }

theorem E2_pol : E2.pol = pureF := by
  funext f
  have := congrFun E1_pol f
  simp only [Env.pol, E2, E1, E0] at this ⊢
  by_cases hf : f = 16
  · subst hf; rfl
  · have e : (ovr2 f).isSome = false := by simp [ovr2, hf]
    rw [e]; exact this

theorem E2_ok : EnvOK Tryz.prog E2 where
  tab := tabOK
  mixed := mixedOK
  schs := schs_ok E2_pol
  ovr := by
    intro f g h
    simp only [E2, ovr2] at h
    split at h
    · rename_i hf; subst hf; cases h; exact gramsV_ok
    · cases h
  ovs := fun f g h run hrun args σ v σ' hg => ovsF_ok f g h run hrun args σ v σ' hg

/-- Segments of documents. -/
def buildV : List AV → Option AV
  | [docs] => match evSeq (E2.evc (callE E2 (runF E2 40)) 9) 69 (splitSeq 5 body9).1 (argsA 0 [docs]) [] with
    | some (l, σ) => match evA 69 l (.tmp 4), evA 69 l (.tmp 9), evA 69 l (.tmp 2) with
      | .mref mid, .ptr sid 0 0, .ptr rid 0 0 => match σ[sid]? with
        | some ⟨0, .cells cs true⟩ => match frzL (frz 24) σ cs with
          | some ([d1, .nil0], σ1) => match σ1[sid]? with
            | some ⟨_, .cells _ true⟩ =>
              let σ2 := σ1.set sid ⟨0, .cells [d1, .nil0] true⟩
              match σ2[mid]?, σ2[rid]? with
              | some ⟨mver, .map es0⟩, some ⟨0, .cells [r1, r2] true⟩ => match frzL (frz 24) σ2 (es0.map (·.2)) with
                | some (vs, σz) => match σz[sid]?, σz[rid]? with
                  | some ⟨0, .cells [x, .nil0] true⟩, some ⟨0, .cells [y1, y2] true⟩ =>
                    if AV.same x d1 = true ∧ d1.plain = true ∧ mid ≠ sid ∧ mid ≠ rid ∧ sid ≠ rid ∧ goodO (runF E2 40) 19 (zipV es0 vs) = true then
                      some (.tup [.agg [d1, builtO (runF E2 40) 19 (zipV es0 vs)], .int .i64 0]) else none
                  | _, _ => none
                | none => none
              | _, _ => none
            | _ => none
          | _ => none
        | _ => none
      | _, _, _ => none
    | none => none
  | _ => none

theorem buildV_ok (args : List AV) (v : AV) (h : buildV args = some v) : CallsF Tryz.prog 9 args v := by
  unfold buildV at h
  split at h
  · rename_i docs
    split at h
    · rename_i l σ hpre
      split at h
      · rename_i mid sid rid h4 h9 h2
        split at h
        · rename_i cs hs
          split at h
          · rename_i d1 σ1 hz1
            split at h
            · rename_i sv scs hs1
              simp only at h
              split at h
              · rename_i mver es0 r1 r2 hm hr
                split at h
                · rename_i vs σz hz
                  split at h
                  · rename_i x y1 y2 hsz hrz
                    split at h
                    · rename_i hc
                      obtain ⟨c1, c2, c3, c4, c5, hg⟩ := hc
                      cases h
                      have := AV.same_eq c1
                      subst this
                      have hrun := runF_ok E2_ok 40
                      have hcf := callE_ok E2_ok hrun
                      obtain ⟨g1, g2, g3, g4⟩ := goodO_spec hrun hg
                      refine callsQ_of_JF tabOK Tryz.func9 (rfl : Tryz.f9.body = some body9) (Nat.le_of_ble_eq_true rfl) ?_
                      have hok : EvOK Tryz.prog (E2.evc (callE E2 (runF E2 40)) 9) := ⟨tabOK, hcf, callE_pol, mixedOK⟩
                      refine JF.pre hok 5 (E2_ok.schs 9 Tryz.f9 body9 rfl rfl) hpre ?_
                      refine JF.frzCells hs hz1 ⟨_, hs1, rfl⟩ ?_
                      exact build_rest hcf h4 hm h9 h2 hz rfl hsz hrz rfl c2 c3 c4 c5 g1 g2 g3 g4
                    · cases h
                  · cases h
                · cases h
              · cases h
            · cases h
          · cases h
        · cases h
      · cases h
    · cases h
  · cases h

def ovr3 (f : FuncId) : Option (List AV → Option AV) := if f = 16 then some gramsV else if f = 9 then some buildV else none

def E3 : Env := { E1 with ovr := ovr3 }

theorem E3_pol : E3.pol = pureF := by
  funext f
  have := congrFun E1_pol f
  simp only [Env.pol, E3, E1, E0] at this ⊢
  by_cases hf : f = 16
  · subst hf; rfl
  · by_cases hg : f = 9
    · subst hg; rfl
    · have e : (ovr3 f).isSome = false := by simp [ovr3, hf, hg]
      rw [e]; exact this

theorem E3_ok : EnvOK Tryz.prog E3 where
  tab := tabOK
  mixed := mixedOK
  schs := schs_ok E3_pol
  ovr := by
    intro f g h
    simp only [E3, ovr3] at h
    split at h
    · rename_i hf; subst hf; cases h; exact gramsV_ok
    · split at h
      · rename_i hf; subst hf; cases h; exact buildV_ok
      · cases h
  ovs := fun f g h run hrun args σ v σ' hg => ovsF_ok f g h run hrun args σ v σ' hg

end
end Go.Proofs.Tryz.Am
