/- A part of the proof: the abstract machine and what it shows of the program. -/
import Derived.Test.YtollmmiifppfnaaGreatDoorClosed

/- The examples of chapter 41 hold: alive returns true. -/
set_option maxRecDepth 1000000
set_option linter.unusedVariables false
namespace Go.Proofs.Tryz.Am
open Go Go.Am Go.Proofs
noncomputable section

def resIs (E : Env) (n d : Nat) (f : FuncId) (args : List AV) (v : AV) : Bool :=
  match runF E n f args [] with
  | some (r, σ) => (match frz d σ r with | some (v', _) => AV.same v' v | none => false)
  | none => false

theorem callsF_of_res {E : Env} (hE : EnvOK Tryz.prog E) {n d : Nat} {f : FuncId} {args : List AV} {v : AV} (h : resIs E n d f args v = true) : CallsF Tryz.prog f args v := by
  unfold resIs at h
  split at h
  · rename_i r σ hr
    split at h
    · rename_i v' σ' hz
      have := AV.same_eq h
      subst this
      exact callsF_runF hE hr hz
    · cases h
  · cases h

def aDocs : AV := .snap 2 [.int .i64 1, .str [114], .str [97], .str [102, 111, 111, 32, 98, 97, 114], .snap 1 [.str [109, 97, 105, 110]], .int .i64 2, .str [114], .str [102, 111, 111, 46, 116, 120, 116], .str [102, 111, 111, 32, 102, 111, 111], .snap 1 [.str [109, 97, 105, 110]]]
def aWorld : AV := .agg [.nil0, .nil0, .nil0, .nil0, .nil0]
def aQuery : AV := .agg [.int .i64 6, .str [102, 111, 111], .bool true, .int .i64 0, .int .i64 0, .nil0]
def aSeg : AV := .agg [.snap 2 [.int .i64 1, .str [114], .str [97], .str [102, 111, 111, 32, 98, 97, 114], .snap 1 [.str [109, 97, 105, 110]], .int .i64 2, .str [114], .str [102, 111, 111, 46, 116, 120, 116], .str [102, 111, 111, 32, 102, 111, 111], .snap 1 [.str [109, 97, 105, 110]]], .snap 7 [.int .i64 2122337, .snap 1 [.int .i64 1, .snap 1 [.int .i64 3]], .int .i64 2123375, .snap 1 [.int .i64 2, .snap 1 [.int .i64 3]], .int .i64 6447474, .snap 1 [.int .i64 1, .snap 1 [.int .i64 4]], .int .i64 6713199, .snap 2 [.int .i64 1, .snap 1 [.int .i64 0], .int .i64 2, .snap 2 [.int .i64 0, .int .i64 4]], .int .i64 7282786, .snap 1 [.int .i64 1, .snap 1 [.int .i64 2]], .int .i64 7282790, .snap 1 [.int .i64 2, .snap 1 [.int .i64 2]], .int .i64 7302944, .snap 2 [.int .i64 1, .snap 1 [.int .i64 1], .int .i64 2, .snap 1 [.int .i64 1]]]]
def aSegs : AV := .snap 1 [.snap 2 [.int .i64 1, .str [114], .str [97], .str [102, 111, 111, 32, 98, 97, 114], .snap 1 [.str [109, 97, 105, 110]], .int .i64 2, .str [114], .str [102, 111, 111, 46, 116, 120, 116], .str [102, 111, 111, 32, 102, 111, 111], .snap 1 [.str [109, 97, 105, 110]]], .snap 7 [.int .i64 2122337, .snap 1 [.int .i64 1, .snap 1 [.int .i64 3]], .int .i64 2123375, .snap 1 [.int .i64 2, .snap 1 [.int .i64 3]], .int .i64 6447474, .snap 1 [.int .i64 1, .snap 1 [.int .i64 4]], .int .i64 6713199, .snap 2 [.int .i64 1, .snap 1 [.int .i64 0], .int .i64 2, .snap 2 [.int .i64 0, .int .i64 4]], .int .i64 7282786, .snap 1 [.int .i64 1, .snap 1 [.int .i64 2]], .int .i64 7282790, .snap 1 [.int .i64 2, .snap 1 [.int .i64 2]], .int .i64 7302944, .snap 2 [.int .i64 1, .snap 1 [.int .i64 1], .int .i64 2, .snap 1 [.int .i64 1]]]]
def aTwo : AV := .snap 1 [.int .i64 2]
def aBuilt : AV := .tup [aSeg, .int .i64 0]

def builtIs (v : AV) : Bool := match buildV [aDocs] with | some v' => AV.same v' v | none => false
theorem built_run : builtIs aBuilt = true := by kernel_rfl
theorem fact9 : CallsF Tryz.prog 9 [aDocs] aBuilt := by
  have h := built_run
  unfold builtIs at h
  split at h
  · rename_i v' hv
    have := AV.same_eq h
    subst this
    exact buildV_ok _ _ hv
  · cases h

def res0 : AV := .snap 2 [.int .i64 2, .int .i64 27, .snap 2 [.int .i64 0, .int .i64 3, .int .i64 4, .int .i64 7], .int .i64 1, .int .i64 4, .snap 1 [.int .i64 0, .int .i64 3]]
def args0 : List AV := [aWorld, aQuery, aDocs]
theorem run0 : resIs E3 60 24 8 args0 res0 = true := by kernel_rfl
theorem fact_0 : CallsF Tryz.prog 8 args0 res0 := callsF_of_res E3_ok run0
def res1 : AV := .snap 2 [.int .i64 2, .int .i64 27, .snap 2 [.int .i64 0, .int .i64 3, .int .i64 4, .int .i64 7], .int .i64 1, .int .i64 4, .snap 1 [.int .i64 0, .int .i64 3]]
def args1 : List AV := [aWorld, aQuery, aSegs, .nil0]
theorem run1 : resIs E3 60 24 10 args1 res1 = true := by kernel_rfl
theorem fact_1 : CallsF Tryz.prog 10 args1 res1 := callsF_of_res E3_ok run1
def res2 : AV := .snap 1 [.int .i64 1, .int .i64 4, .snap 1 [.int .i64 0, .int .i64 3]]
def args2 : List AV := [aWorld, aQuery, aSegs, aTwo]
theorem run2 : resIs E3 60 24 10 args2 res2 = true := by kernel_rfl
theorem fact_2 : CallsF Tryz.prog 10 args2 res2 := callsF_of_res E3_ok run2
def res3 : AV := .int .i64 2
def args3 : List AV := [aQuery, aSegs, .nil0]
theorem run3 : resIs E3 60 24 11 args3 res3 = true := by kernel_rfl
theorem fact_3 : CallsF Tryz.prog 11 args3 res3 := callsF_of_res E3_ok run3
def res4 : AV := .int .i64 1
def args4 : List AV := [aQuery, aSegs, aTwo]
theorem run4 : resIs E3 60 24 11 args4 res4 = true := by kernel_rfl
theorem fact_4 : CallsF Tryz.prog 11 args4 res4 := callsF_of_res E3_ok run4

def o8 (args : List AV) : Option AV := if AV.sames args args0 = true then some res0 else none
def o9 (args : List AV) : Option AV := if AV.sames args [aDocs] = true then some aBuilt else none
def o10 (args : List AV) : Option AV := if AV.sames args args1 = true then some res1 else if AV.sames args args2 = true then some res2 else none
def o11 (args : List AV) : Option AV := if AV.sames args args3 = true then some res3 else if AV.sames args args4 = true then some res4 else none

def ovr4 (f : FuncId) : Option (List AV → Option AV) := if f = 8 then some o8 else if f = 9 then some o9 else if f = 10 then some o10 else if f = 11 then some o11 else none

def E4 : Env := { E1 with ovr := ovr4 }

theorem E4_pol : E4.pol = pureF := by
  funext f
  have := congrFun E1_pol f
  simp only [Env.pol, E4, E1, E0] at this ⊢
  by_cases h8 : f = 8
  · subst h8; rfl
  by_cases h9 : f = 9
  · subst h9; rfl
  by_cases h10 : f = 10
  · subst h10; rfl
  by_cases h11 : f = 11
  · subst h11; rfl
  have e : (ovr4 f).isSome = false := by simp [ovr4, h8, h9, h10, h11]
  rw [e]; exact this

theorem E4_ok : EnvOK Tryz.prog E4 where
  tab := tabOK
  mixed := mixedOK
  schs := schs_ok E4_pol
  ovr := by
    intro f g h args v hv
    simp only [E4, ovr4] at h
    split at h
    · rename_i hf; subst hf; cases h
      unfold o8 at hv
      split at hv
      · rename_i hs; cases hv; rw [AV.sames_eq hs]; exact fact_0
      · cases hv
    split at h
    · rename_i hf; subst hf; cases h
      unfold o9 at hv
      split at hv
      · rename_i hs; cases hv; rw [AV.sames_eq hs]; exact fact9
      · cases hv
    split at h
    · rename_i hf; subst hf; cases h
      unfold o10 at hv
      split at hv
      · rename_i hs; cases hv; rw [AV.sames_eq hs]; exact fact_1
      split at hv
      · rename_i hs; cases hv; rw [AV.sames_eq hs]; exact fact_2
      · cases hv
    split at h
    · rename_i hf; subst hf; cases h
      unfold o11 at hv
      split at hv
      · rename_i hs; cases hv; rw [AV.sames_eq hs]; exact fact_3
      split at hv
      · rename_i hs; cases hv; rw [AV.sames_eq hs]; exact fact_4
      · cases hv
    · cases h
  ovs := fun f g h run hrun args σ v σ' hg => ovsF_ok f g h run hrun args σ v σ' hg

theorem alive_run : resIs E4 60 4 4 [] (.bool true) = true := by kernel_rfl

/-- alive returns true. -/
theorem alive_true : CallsF Tryz.prog 4 [] (.bool true) := callsF_of_res E4_ok alive_run

end
end Go.Proofs.Tryz.Am
