/- A part of the proof: the abstract machine and what it shows of the program. -/
import Derived.Test.YtollmmiifppfnaaGreatDoorMachG
import Derived.Test.YtollmmiifppfnaaGreatDoorTab
import Derived.Test.YtollmmiifppfnaaGreatDoorLay
import Derived.Lib.Bytealg

/- The machine for this program. -/
set_option maxRecDepth 100000
set_option linter.unusedVariables false
namespace Go.Proofs.Tryz.Am
open Go Go.Am Go.Proofs
noncomputable section

/-- The place of a byte. -/
def idxB (c : UInt8) : List UInt8 → Nat → Int
  | [], _ => -1
  | b :: l, i => if b == c then (i : Int) else idxB c l (i + 1)

theorem idxB_eq (c : UInt8) : ∀ (l : List UInt8) (i : Nat), idxB c l i = if Lib.indexByte l c = -1 then -1 else Lib.indexByte l c + i
  | [], i => by simp [idxB, Lib.indexByte]
  | b :: l, i => by
    have h := Lib.indexByte_ge l c
    unfold idxB Lib.indexByte
    by_cases hb : (b == c) = true
    · simp [hb]
    · simp only [hb, Bool.false_eq_true, if_false]
      rw [idxB_eq c l (i + 1)]
      by_cases h1 : Lib.indexByte l c = -1
      · simp [h1]
      · have e : (Lib.indexByte l c == -1) = false := by simpa using h1
        simp only [e, Bool.false_eq_true, if_false, if_neg h1]
        rw [if_neg (by omega)]
        omega

def ibs : List AV → Option AV
  | [.str s, .int .u8 c] => some (.int .i64 (idxB c.toNat.toUInt8 s 0))
  | _ => none

def cnt : List AV → Option AV
  | [.str s, .int .u8 c] => some (.int .i64 (Lib.countByte s c.toNat.toUInt8 : Nat))
  | _ => none

def extF (f : FuncId) : Option (List AV → Option AV) := if f = 372 then some ibs else if f = 347 then some cnt else none

def tab : Tab := { ty := Go.Am.look tys, fn := Go.Am.look fns, ext := extF, lits := litF }

theorem two_args {w : World} {M : Nat → Prop} {ρ : Rho} {σ : St} {s : List UInt8} {k : IntKind} {c : Int} {cargs : Array Value} (h : VRs w M ρ σ [.str s, .int k c] cargs) : ∃ bs : ByteArray, bs.data.toList = s ∧ cargs = #[.string bs, .int k c] := by
  obtain ⟨hs, hv⟩ := h
  match cargs, hs with
  | ⟨[a, b]⟩, _ =>
    have h1 := hv 0 _ a rfl rfl
    have h2 := hv 1 _ b rfl rfl
    cases h1 with
    | str _ bs hb =>
      cases h2
      exact ⟨bs, hb, rfl⟩

theorem tabOK : TabOK Tryz.prog tab where
  ty := fun t i h => tys_ok tys_good t i h
  fn := fun f fn h => fns_good (f, fn) (look_mem h)
  ext := by
    intro f g _ hg X ρ σ w args v cargs hv ha hR
    simp only [tab, extF] at hg
    split at hg
    · rename_i hf
      subst hf
      cases hg
      unfold ibs at hv
      split at hv
      · rename_i s c
        cases hv
        obtain ⟨bs, rfl, rfl⟩ := two_args ha
        refine ⟨_, ?_, .int _ _⟩
        rw [run_callFunc_extern Tryz.func372 (by kernel_rfl) (by kernel_rfl) (by kernel_rfl) (e := Extern.BytealgIndexByte.indexByte) (by kernel_rfl), Lib.run_indexByteString]
        simp only [Result.andThen_ok]
        rw [idxB_eq]
        congr 3
        split <;> simp_all
      · cases hv
    · split at hg
      · rename_i _ hf
        subst hf
        cases hg
        unfold cnt at hv
        split at hv
        · rename_i s c
          cases hv
          obtain ⟨bs, rfl, rfl⟩ := two_args ha
          refine ⟨_, ?_, .int _ _⟩
          rw [run_callFunc_extern Tryz.func347 (by kernel_rfl) (by kernel_rfl) (by kernel_rfl) (e := Extern.BytealgCount.count) (by kernel_rfl), Lib.run_countString]
          simp only [Result.andThen_ok]
        · cases hv
      · cases hg

theorem mixedOK : Tryz.prog.follows .mixedOrders = true := by kernel_rfl

/-- The machine without calls that are told. -/
def E0 : Env := { T := tab, sch := sch, pure := pureF, ovr := fun _ => none, fuel := 400, depth := 24 }

theorem schs_ok {pol : FuncId → Bool} (hp : pol = pureF) : ∀ f fn c, tab.fn f = some fn → fn.body = some c → schsOK tab.lits pol (sch f) c = true := by
  intro f fn c hf hc
  have := schs_good (f, fn) (look_mem hf)
  simp only at this
  rw [hc] at this
  rw [hp]
  exact this

theorem E0_pol : E0.pol = pureF := by
  funext f
  simp [Env.pol, E0]

theorem E0_ok : EnvOK Tryz.prog E0 where
  tab := tabOK
  mixed := mixedOK
  schs := schs_ok E0_pol
  ovr := fun f g h => by simp [E0] at h
  ovs := fun f g h => by simp [E0] at h

end
end Go.Proofs.Tryz.Am

/- The machine with the calls that are told: sorts, clones. -/
set_option maxRecDepth 100000
set_option linter.unusedVariables false
namespace Go.Proofs.Tryz.Am
open Go Go.Am Go.Proofs
noncomputable section

def fsw (n : Nat) : FuncId := if n = 0 then 174 else if n = 1 then 175 else 182
def nbw (n : Nat) : Nat := if n ≤ 1 then 0 else 2

theorem swapK (n : Nat) : Lib.swapperK n Tryz.t37 25 = if n = 0 then 1 else if n = 1 then 2 else 9 := by
  unfold Lib.swapperK
  by_cases h0 : n = 0
  · simp [h0]
  · by_cases h1 : n = 1
    · simp [h1]
    · have a : (n == 0) = false := by simpa using h0
      have b : (n == 1) = false := by simpa using h1
      rw [a, b, if_neg h0, if_neg h1]
      rfl

def ovsF (f : FuncId) : Option (CallF → List AV → St → Option (AV × St)) :=
  if f = 18 then some (sortO tab 2 24) else if f = 32 then some (sortO tab 2 24) else if f = 57 then some (sliceO 38 112 fsw nbw)
  else if f = 17 then some (cloneO 17) else if f = 23 then some (cloneO 23) else if f = 130 then some (cloneO 130) else none

theorem ovsF_pure (f : FuncId) (h : (ovsF f).isSome = true) : pureF f = false := by
  unfold ovsF at h
  repeat' (first | (split at h; rename_i hf; subst hf; rfl) | skip)
  all_goals first | (cases h; done) | skip

theorem ovsF_ok (f : FuncId) (g : CallF → List AV → St → Option (AV × St)) (h : ovsF f = some g) (run : CallF) (hrun : CfOK Tryz.prog run) (args : List AV) (σ : St) (v : AV) (σ' : St) (hg : g run args σ = some (v, σ')) : CallsA Tryz.prog f args σ v σ' := by
  unfold ovsF at h
  split at h
  · rename_i hf; subst hf; cases h
    exact sortO_ok tabOK Tryz.sortPost Tryz.isAgg74 Tryz.sizeOf74 hrun hg
  split at h
  · rename_i hf; subst hf; cases h
    exact sortO_ok tabOK Tryz.sortGram Tryz.isAgg68 Tryz.sizeOf68 hrun hg
  split at h
  · rename_i hf; subst hf; cases h
    refine sliceO_ok Tryz.sortSlice 38 37 Tryz.t38 Tryz.t37 (by kernel_rfl) (by kernel_rfl) (by kernel_rfl) (by kernel_rfl) 25 (fun _ => by kernel_rfl) (fsw := fsw) (nb := nbw) ?_ ?_ hrun hg
    · intro n
      rw [swapK]
      unfold fsw
      by_cases h0 : n = 0
      · rw [if_pos h0, if_pos h0]; kernel_rfl
      · by_cases h1 : n = 1
        · rw [if_neg h0, if_pos h1, if_neg h0, if_pos h1]; kernel_rfl
        · rw [if_neg h0, if_neg h1, if_neg h0, if_neg h1]; kernel_rfl
    · intro n
      rw [swapK]
      unfold nbw
      by_cases h0 : n = 0
      · subst h0; rfl
      · by_cases h1 : n = 1
        · subst h1; rfl
        · rw [if_neg h0, if_neg h1, if_neg (by omega), if_neg (by omega)]
  split at h
  · rename_i hf; subst hf; cases h
    exact cloneO_ok (runF_ok E0_ok 1) (fun c => by kernel_rfl) (k := 5) (r := .nil0) (σ1 := [⟨0, .dead⟩]) (σ2 := [⟨0, .dead⟩]) (d := 1) (by kernel_rfl) rfl hrun hg
  split at h
  · rename_i hf; subst hf; cases h
    exact cloneO_ok (runF_ok E0_ok 1) (fun c => by kernel_rfl) (k := 3) (r := .nil0) (σ1 := [⟨0, .dead⟩]) (σ2 := [⟨0, .dead⟩]) (d := 1) (by kernel_rfl) rfl hrun hg
  split at h
  · rename_i hf; subst hf; cases h
    exact cloneO_ok (runF_ok E0_ok 1) (fun c => by kernel_rfl) (k := 1) (r := .nil0) (σ1 := [⟨0, .dead⟩]) (σ2 := [⟨0, .dead⟩]) (d := 1) (by kernel_rfl) rfl hrun hg
  · cases h

def E1 : Env := { E0 with ovs := ovsF }

theorem E1_pol : E1.pol = pureF := by
  funext f
  simp only [Env.pol, E1, E0, Option.isSome_none, Bool.or_false]
  cases h : ovsF f with
  | none => simp
  | some g => simp [ovsF_pure f (by rw [h]; rfl)]

theorem E1_ok : EnvOK Tryz.prog E1 where
  tab := tabOK
  mixed := mixedOK
  schs := schs_ok E1_pol
  ovr := fun f g h => by simp [E1, E0] at h
  ovs := fun f g h run hrun args σ v σ' hg => ovsF_ok f g h run hrun args σ v σ' hg

end
end Go.Proofs.Tryz.Am
