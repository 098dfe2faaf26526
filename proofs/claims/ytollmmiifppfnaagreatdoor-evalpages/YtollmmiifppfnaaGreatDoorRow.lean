/- A part of the proof: the abstract machine and what it shows of the program. -/
import Derived.Test.YtollmmiifppfnaaGreatDoorRows
import Derived.WalkKit
import Derived.ProofKit
import Derived.OpenShut
import Derived.ChangeOld
import Derived.SizedLaws
import Derived.Below
import Derived.Carry
import Derived.WalkSmall
import Derived.Lay
import Derived.LaidOnce
import Derived.PinnedBridge
import Derived.Test.YtollmmiifppfnaaGreatDoorLaw
import Derived.Test.YtollmmiifppfnaaGreatDoorMachH

/- The row of EvalPages: what a reading lays, the law on the machine, and back. -/
set_option linter.unusedVariables false
set_option linter.unusedSimpArgs false
set_option maxRecDepth 100000
namespace Go.Proofs.YtollmmiifppfnaaGreatDoor
open Go Go.Am Go.Proofs Go.Sort Go.Proofs.Tryz.Am Go.Lib
open Go.ChangeShapes Go.WideShapes Go.ChangeAt Go.RowKit

theorem own : ownKnob Tryz.prog.godebug = none := by kernel_rfl
theorem b37 : Tryz.prog.bytesOf 37 = 16 := by kernel_rfl
theorem b40 : Tryz.prog.bytesOf 40 = 40 := by kernel_rfl
theorem c3 : Tryz.prog.cellsOf 3 = 1 := by kernel_rfl
theorem c37 : Tryz.prog.cellsOf 37 = 2 := by kernel_rfl
theorem c38 : Tryz.prog.cellsOf 38 = 1 := by kernel_rfl
theorem c40 : Tryz.prog.cellsOf 40 = 3 := by kernel_rfl
theorem laidOut : laidOutB Tryz.prog = true := by kernel_rfl

def spF (p : Int × Int) : List AV := [.int .i64 p.1, .int .i64 p.2]
theorem spanRead {H : Type} {enc : TypeId × Value → H} {w : World} {sp : Nat → Bool} {held : Bool} {n : Nat} {c : List Value} {y : DataW H × List MemPlace} (h : DataW.trod enc Tryz.prog w 0 sp held n 37 c = some y) (hwt : ∀ m ∈ y.1.weights Tryz.prog 37, m ≤ reachBytes) :
    ∃ p : Int × Int, True ∧ ∀ (j : Nat) c' v, (spF p)[j]? = some c' → c[j]? = some v → VC w (fun _ => False) c' v := by
  obtain ⟨xs, m, _, _, hl, hx, hf⟩ := DataW.trod_struct Tryz.underlying37 h
  rw [c37] at hl
  match c, hl with
  | [a, b], _ =>
    have h0 : DataW.trod enc Tryz.prog w 0 sp held m 3 (([a, b].drop 0).take (Tryz.prog.cellsOf 3)) = xs[0]? := hf 0 _ rfl
    have h1 : DataW.trod enc Tryz.prog w 0 sp held m 3 (([a, b].drop 1).take (Tryz.prog.cellsOf 3)) = xs[1]? := hf 1 _ rfl
    rw [c3] at h0 h1
    change DataW.trod enc Tryz.prog w 0 sp held m 3 [a] = _ at h0
    change DataW.trod enc Tryz.prog w 0 sp held m 3 [b] = _ at h1
    obtain ⟨x0, hx0⟩ : ∃ x, xs[0]? = some x := ⟨_, List.getElem?_eq_getElem (by simp at hx; omega)⟩
    obtain ⟨x1, hx1⟩ : ∃ x, xs[1]? = some x := ⟨_, List.getElem?_eq_getElem (by simp at hx; omega)⟩
    rw [hx0] at h0
    rw [hx1] at h1
    obtain ⟨i, hi, _⟩ := DataW.trod_int Tryz.underlying3 h0
    obtain ⟨k, hk, _⟩ := DataW.trod_int Tryz.underlying3 h1
    simp only [List.cons.injEq, and_true] at hi hk
    subst hi; subst hk
    refine ⟨(i, k), trivial, fun j c' v hc hv => ?_⟩
    match j with
    | 0 => simp [spF] at hc hv; subst hc; subst hv; exact .int _ _
    | 1 => simp [spF] at hc hv; subst hc; subst hv; exact .int _ _
    | j + 2 => simp at hv

theorem resRead {H : Type} {enc : TypeId × Value → H} {w : World} {sp : Nat → Bool} {held : Bool} {n : Nat} {c : List Value} {y : DataW H × List MemPlace} (h : DataW.trod enc Tryz.prog w 0 sp held n 40 c = some y) (hwt : ∀ m ∈ y.1.weights Tryz.prog 40, m ≤ reachBytes) :
    ∃ x : Rz, x.spans.length ≤ reachBytes ∧ ∀ (j : Nat) c' v, (x.cells)[j]? = some c' → c[j]? = some v → VC w (fun _ => False) c' v := by
  obtain ⟨xs, m, _, hy, hl, hx, hf⟩ := DataW.trod_struct Tryz.underlying40 h
  rw [c40] at hl
  match c, hl with
  | [a, b, s], _ =>
    have h0 : DataW.trod enc Tryz.prog w 0 sp held m 3 (([a, b, s].drop 0).take (Tryz.prog.cellsOf 3)) = xs[0]? := hf 0 _ rfl
    have h1 : DataW.trod enc Tryz.prog w 0 sp held m 3 (([a, b, s].drop 1).take (Tryz.prog.cellsOf 3)) = xs[1]? := hf 1 _ rfl
    have h2 : DataW.trod enc Tryz.prog w 0 sp held m 38 (([a, b, s].drop 2).take (Tryz.prog.cellsOf 38)) = xs[2]? := hf 2 _ rfl
    rw [c3] at h0 h1
    rw [c38] at h2
    change DataW.trod enc Tryz.prog w 0 sp held m 3 [a] = _ at h0
    change DataW.trod enc Tryz.prog w 0 sp held m 3 [b] = _ at h1
    change DataW.trod enc Tryz.prog w 0 sp held m 38 [s] = _ at h2
    obtain ⟨x0, hx0⟩ : ∃ x, xs[0]? = some x := ⟨_, List.getElem?_eq_getElem (by simp at hx; omega)⟩
    obtain ⟨x1, hx1⟩ : ∃ x, xs[1]? = some x := ⟨_, List.getElem?_eq_getElem (by simp at hx; omega)⟩
    obtain ⟨x2, hx2⟩ : ∃ x, xs[2]? = some x := ⟨_, List.getElem?_eq_getElem (by simp at hx; omega)⟩
    rw [hx0] at h0
    rw [hx1] at h1
    rw [hx2] at h2
    obtain ⟨i, hi, _⟩ := DataW.trod_int Tryz.underlying3 h0
    obtain ⟨k, hk, _⟩ := DataW.trod_int Tryz.underlying3 h1
    have hw2 : ∀ m ∈ x2.1.weights Tryz.prog 38, m ≤ reachBytes := fun m hm => by
      refine hwt m ?_
      subst hy
      unfold DataW.weights
      rw [Tryz.underlying40]
      exact DataW.weights_mem_each (j := 2) (t := 38) (d := x2.1) rfl (by rw [List.getElem?_map, hx2]; rfl) m hm
    obtain ⟨l, hle, _, hvc⟩ := snap_of_trod (F := spF) Tryz.underlying38 c37 (by decide) (by rw [b37]; decide) (fun _ => rfl) (fun _ => True) (fun n c y h hw => spanRead h hw) h2 hw2
    simp only [List.cons.injEq, and_true] at hi hk
    subst hi; subst hk
    refine ⟨⟨i, k, l⟩, hle, fun j c' v hc hv => ?_⟩
    match j with
    | 0 => simp [Rz.cells] at hc hv; subst hc; subst hv; exact .int _ _
    | 1 => simp [Rz.cells] at hc hv; subst hc; subst hv; exact .int _ _
    | 2 => simp [Rz.cells] at hc hv; subst hc; subst hv; exact hvc
    | j + 3 => simp at hv

theorem rowRead {H : Type} {enc : TypeId × Value → H} {w : World} {sp : Nat → Bool} {held : Bool} {a : Option Addr} {len cap : Nat} {d : DataW H} {p : List MemPlace} (h : DataW.Trod enc Tryz.prog w 0 sp held 22 (.slice a len cap) d p) (hwt : ∀ m ∈ d.weights Tryz.prog 22, m ≤ reachBytes) :
    ∃ l : List Rz, l.length ≤ reachBytes ∧ (∀ x ∈ l, x.spans.length ≤ reachBytes) ∧ VC w (fun _ => False) (rs l) (.slice a len cap) := by
  obtain ⟨fuel, hf⟩ := h
  exact snap_of_trod (F := Rz.cells) Tryz.underlying22 c40 (by decide) (by rw [b40]; decide) (fun _ => rfl) (fun x => x.spans.length ≤ reachBytes) (fun n c y h hw => resRead h hw) hf hwt

theorem below_grow {w : World} {q : Nat} {os : Array Obj} : Below w.heap.size w (grow (w.drewN q) os) :=
  ⟨rfl, rfl, rfl, by simp [grow, World.drewN], fun k hk => by simp [grow, World.drewN, Array.getElem?_append, hk]⟩

theorem walkRow (l : List Rz) (a k : Int) (hl : l.length ≤ reachBytes) (hs : ∀ x ∈ l, x.spans.length ≤ reachBytes) (W : World) (v : Value) (hv : VC W (fun _ => False) (rs l) v) :
    Calls Tryz.prog 3 #[v, .int .i64 a, .int .i64 k] W fun e w' => e = .returned (.bool true) ∧ Below W.heap.size W w' := by
  have hm : reachBytes ≤ 4611686018427387904 := Nat.le_of_ble_eq_true rfl
  refine (callsF_world (law3 l a k (fun x hx => Nat.le_trans (hs x hx) hm) (Nat.le_trans hl hm)) (W := W) (cargs := #[v, .int .i64 a, .int .i64 k]) rfl (fun i c u hc hu => ?_)).mono ?_
  · match i with
    | 0 => simp at hc hu; subst hc; subst hu; exact hv
    | 1 => simp at hc hu; subst hc; subst hu; exact .int _ _
    | 2 => simp at hc hu; subst hc; subst hu; exact .int _ _
    | i + 3 => simp at hc
  · rintro e w' ⟨cv, q, os, rfl, hr, rfl⟩
    rw [hr.bool_inv]
    exact ⟨rfl, below_grow⟩

theorem lifted (os : Os) (started : os.Started) (H : Type) (enc : TypeId × Value → H) :
    ReturnsInHanded {} Tryz.checked os 3 .any (fun w args => (Rows.evalPagesSpec.pre enc Tryz.prog Tryz.f3 [] false w args ∧ laidMetH Tryz.prog Rows.evalPagesRow.laid w) ∧ sizedMet enc Tryz.prog Tryz.f3 (OpenSpec.ofChange Rows.evalPagesSpec) false w args)
      (Rows.evalPagesSpec.post enc Tryz.prog Tryz.f3 false true false false) := by
  refine returnsInHanded_of_change_and (C := Tryz.checked) (X := fun w _ => laidMetH Tryz.prog Rows.evalPagesRow.laid w) (fun _ _ _ hh h => h.of_heap hh) own started (by kernel_rfl) Tryz.func3
    (ChangeSpec.witness_shaped (enc := enc) (C := Tryz.checked) (os := os) (X := fun w _ => laidMetH Tryz.prog Rows.evalPagesRow.laid w) false (World.laidAll Tryz.prog os Rows.evalPagesRow.laid) #[.slice none 0 0, .int .i64 0, .int .i64 0] 8 (World.laidAll_os _ _ _)
      (World.shaped_of_ZipB (by kernel_rfl) (by kernel_rfl)) (by kernel_rfl) (by kernel_rfl) (by kernel_rfl)
      (by rw [MakeChecks.laidMetH_plain _ _ _ (by kernel_rfl)]; exact laidMet_laidAll _ (by kernel_rfl) (by kernel_rfl))) ?_
  intro W base args ds gs before hval0 hW _ hsz0 hL _
  have hval : ∀ (j : Nat) t v, Tryz.f3.params[j]? = some t → args[j]? = some v → Value.okWide Tryz.prog W .any base t v := hval0
  have hW' := hW
  obtain ⟨p, q, hA0, hV, rfl, _, _⟩ := hW
  have hA : DataW.TrodAll enc Tryz.prog W 0 (fun _ => true) true Tryz.f3.params.toList args.toList ds p := hA0
  have hsz : (DataW.weightsEach Tryz.prog (Tryz.f3.params.toList ++ Rows.evalPagesSpec.plain.varTypes Tryz.prog) (ds ++ gs)).all (· ≤ reachBytes) = true := hsz0
  rw [Tryz.params3] at hA hval hsz
  obtain ⟨v0, v1, v2, d0, d1, d2, p0, p1, p2, rfl, rfl, rfl, h0, h1, h2⟩ := trodAll_three hA
  obtain ⟨rfl, rfl⟩ := trodVars_none hV
  obtain ⟨s, len, cap, rfl⟩ := okWide_slice Tryz.underlying22 (hval 0 22 v0 rfl rfl)
  have lt0 : ∀ x ∈ p0, x.block < W.heap.size := by
    obtain ⟨m, hm⟩ := h0
    exact DataW.trod_lt m _ _ _ hm
  obtain ⟨l, hl, hs, hvc⟩ := rowRead h0 (fun m hm => by
    have := List.all_eq_true.1 hsz m (DataW.weights_mem_each (j := 0) (t := 22) (d := d0) rfl rfl m hm)
    simpa using this)
  obtain ⟨a, rfl, rfl, rfl, wa⟩ := open_int Tryz.underlying3 (hval 1 3 v1 rfl rfl) h1
  obtain ⟨k, rfl, rfl, rfl, wk⟩ := open_int Tryz.underlying3 (hval 2 3 v2 rfl rfl) h2
  refine (walkRow l a k hl hs W _ hvc).mono fun e W' ⟨he, bel⟩ => ?_
  subst he
  exact ⟨_, rfl, _, _, _, [], _, [], hW', trodAll_mk1 (shut_bool Tryz.underlying4 _), trodAll_mk3 (Below.trod laidOut (by kernel_rfl) (of_decide_eq_true (by kernel_rfl)) h0 bel lt0) (shut_int Tryz.underlying3 wa) (shut_int Tryz.underlying3 wk), rfl, bel.frame _, fun h => by cases h⟩

end Go.Proofs.YtollmmiifppfnaaGreatDoor
