/- A part of the proof: the abstract machine and what it shows of the program. -/
import Derived.Test.YtollmmiifppfnaaGreatDoorMachA
import Derived.Deep.AppendSrc

/- More operations that leave the world alone. -/
set_option linter.unusedVariables false
set_option linter.unusedSimpArgs false
namespace Go.Am
variable {P : Program} {T : Tab} {X : Nat → Prop} {ρ : Rho} {σ : St} {w : World}

theorem eqGuard_plain (op : BinOp) (t : TypeId) (x y : Operand) (a b : Value) (ha : a ≠ .nilIface) (hb : ∀ cs, a ≠ .agg cs) : (eqGuard op t x y a b).run P w = .ok () w := by
  unfold eqGuard
  cases op <;> simp <;> (cases a <;> simp_all)

theorem binop_sound {op : BinOp} {t : TypeId} {x y : Operand} {c d : AV} {u v : Value} (hT : TabOK P T) (hu : VR w (Mu X ρ σ) ρ σ c u) (hv : VR w (Mu X ρ σ) ρ σ d v) {r : AV}
    (h : binop T op t c d = some r) : ∃ z, ((do eqGuard op t x y u v; binOp op t u v) : Sem Value).run P w = .ok z w ∧ VR w (Mu X ρ σ) ρ σ r z := by
  unfold binop at h
  split at h
  · -- shl
    have e1 := hu.int_inv; have e2 := hv.int_inv; subst e1; subst e2
    split at h
    · cases h
    · rename_i hb
      cases h
      refine ⟨_, ?_, .int _ _⟩
      rw [Sem.run_bind, eqGuard_plain _ _ _ _ _ _ (by simp) (by simp), Result.andThen_ok]
      simp only [binOp, Op.shift]
      rw [if_neg hb]; rfl
  · have e1 := hu.int_inv; have e2 := hv.int_inv; subst e1; subst e2
    split at h
    · cases h
    · rename_i hb
      cases h
      refine ⟨_, ?_, .int _ _⟩
      rw [Sem.run_bind, eqGuard_plain _ _ _ _ _ _ (by simp) (by simp), Result.andThen_ok]
      simp only [binOp, Op.shift]
      rw [if_neg hb]; rfl
  · have e1 := hu.int_inv; have e2 := hv.int_inv; subst e1; subst e2
    split at h
    · rename_i hk
      subst hk
      obtain ⟨z, hz, hr⟩ := intBin_sound (P := P) (t := t) (w := w) (ρ := ρ) (σ := σ) h
      refine ⟨z, ?_, hr _⟩
      rw [Sem.run_bind, eqGuard_plain _ _ _ _ _ _ (by simp) (by simp), Result.andThen_ok, hz]
    · cases h
  · have e1 := hu.str_inv; have e2 := hv.str_inv; subst e1; subst e2
    obtain ⟨z, hz, hr⟩ := strBin_sound (P := P) (t := t) (w := w) (ρ := ρ) (σ := σ) h
    refine ⟨z, ?_, hr _⟩
    rw [Sem.run_bind, eqGuard_plain _ _ _ _ _ _ (by simp) (by simp), Result.andThen_ok, hz]
  · have e1 := hu.bool_inv; have e2 := hv.bool_inv; subst e1; subst e2
    split at h
    · rename_i hty
      cases h
      refine ⟨_, ?_, .bool _⟩
      rw [Sem.run_bind, eqGuard_plain _ _ _ _ _ _ (by simp) (by simp), Result.andThen_ok]
      have hu := (hT.ty _ _ hty).und
      simp only [binOp, Sem.run_bind, Op.equal, Op.maxDepth]
      rw [run_equalIn_bool' (P := P) w 9999 t _ _ hu]; rfl
    · cases h
  · have e1 := hu.bool_inv; have e2 := hv.bool_inv; subst e1; subst e2
    split at h
    · rename_i hty
      cases h
      refine ⟨_, ?_, .bool _⟩
      rw [Sem.run_bind, eqGuard_plain _ _ _ _ _ _ (by simp) (by simp), Result.andThen_ok]
      have hu := (hT.ty _ _ hty).und
      simp only [binOp, Sem.run_bind, Op.equal, Op.maxDepth]
      rw [run_equalIn_bool' (P := P) w 9999 t _ _ hu]; rfl
    · cases h
  · split at h
    · rename_i i hty
      split at h
      · rename_i hc
        obtain ⟨hf, ha, hb, htg⟩ := hc
        simp only [Option.map_eq_some_iff] at h
        obtain ⟨e, he, rfl⟩ := h
        cases hu with
        | agg _ xs h1 h2 =>
        cases hv with
        | agg _ ys h3 h4 =>
          have F := (hT.ty _ _ hty).flat hf
          refine ⟨_, ?_, .bool e⟩
          rw [Sem.run_bind, run_eqGuard_agg (P := P) w _ _ _ _ _ _ F.guard, Result.andThen_ok, run_eql_struct, F.eq w _ _ _ _ _ xs ys e ha hb htg ⟨h1, h2⟩ ⟨h3, h4⟩ he]; rfl
      · cases h
    · cases h
  · split at h
    · rename_i i hty
      split at h
      · rename_i hc
        obtain ⟨hf, ha, hb, htg⟩ := hc
        simp only [Option.map_eq_some_iff] at h
        obtain ⟨e, he, rfl⟩ := h
        cases hu with
        | agg _ xs h1 h2 =>
        cases hv with
        | agg _ ys h3 h4 =>
          have F := (hT.ty _ _ hty).flat hf
          refine ⟨_, ?_, .bool (!e)⟩
          rw [Sem.run_bind, run_eqGuard_agg (P := P) w _ _ _ _ _ _ F.guard, Result.andThen_ok, run_neq_struct, F.eq w _ _ _ _ _ xs ys e ha hb htg ⟨h1, h2⟩ ⟨h3, h4⟩ he]; rfl
      · cases h
    · cases h
  · cases h

theorem run_equalIn_nil (w : World) (d : Nat) (t : TypeId) (ad : Option Addr) (n cp : Nat) {e : TypeId} (hu : P.underlying t = some (.slice e)) : (Op.equalIn (d + 1) t (.slice ad n cp) (.slice none 0 0)).run P w = .ok ad.isNone w := by
  unfold Op.equalIn
  rw [Sem.run_bind, run_underlying hu, Result.andThen_ok]
  cases ad <;> rfl

theorem op_binOp {o : Oper} {op : BinOp} {t t' : TypeId} {x y : Operand} (ho : o.op = .binOp op t x y t') {fr : Fr} {a : Act} (hT : TabOK P T) (hR : Rel X ρ σ w) (hF : FR X ρ σ w fr a) {r : AStep}
    (h : astep T o fr σ = some r) : Good X ρ σ w r ((execOp a.eval o).run P w) := by
  simp only [astep, ho] at h
  obtain ⟨c, hc, rfl⟩ := val_some h
  unfold binopO at hc
  split at hc
  · rename_i hn
    have hy : y = .const (.slice none 0 0) := by
      unfold nilSlice at hn
      split at hn
      · rfl
      · cases hn
    subst hy
    obtain ⟨ad, n, cp, b, hv, e, nn, hty, hop, rfl⟩ : ∃ (ad : Option Addr) (n cp : Nat) (b : Bool) (hv : a.eval x = .slice ad n cp) (e nn : _) (hty : P.underlying t = some (.slice e)), (op = .eql ∧ b = ad.isNone ∨ op = .neq ∧ b = !ad.isNone) ∧ c = .bool b := by
      unfold nilCmp at hc
      split at hc
      · rename_i e _ _ _ _ hty
        have hu := (hT.ty _ _ hty).und
        have hvr := hF.ev x
        have key : ∀ (c' : AV), ev fr x = c' → ((∃ id ver off n k, c' = .ref id ver off n k) ∨ ∃ n cs, c' = .snap (n + 1) cs) → ∃ (ad : Addr) (n cp : Nat), a.eval x = .slice (some ad) n cp := by
          rintro c' he (⟨id, ver, off, n, k, rfl⟩ | ⟨n, cs, rfl⟩)
          · rw [he] at hvr
            cases hvr with
            | ref _ _ _ _ _ _ h0 => obtain ⟨ad, cp, h0, _⟩ := h0; exact ⟨ad, _, cp, h0⟩
          · rw [he] at hvr
            generalize a.eval x = u at hvr
            cases hvr with
            | snap _ _ ad cp _ => exact ⟨ad, _, cp, rfl⟩
        have keyl : ∀ (u : Value), ev fr x = .lit u → a.eval x = u := fun u he => by
          rw [he] at hvr
          cases hvr; rfl
        split at hc <;> first | cases hc | skip
        all_goals
          first
          | (rename_i he; exact ⟨none, _, _, true, keyl _ he, e, 0, hu, .inl ⟨rfl, rfl⟩, rfl⟩)
          | (rename_i he; exact ⟨none, _, _, false, keyl _ he, e, 0, hu, .inr ⟨rfl, rfl⟩, rfl⟩)
          | skip
        all_goals
          rename_i he
          obtain ⟨ad, n, cp, hv⟩ := key _ he (by first | exact .inl ⟨_, _, _, _, _, rfl⟩ | exact .inr ⟨_, _, rfl⟩)
          first
          | exact ⟨some ad, n, cp, false, hv, e, 0, hu, .inl ⟨rfl, rfl⟩, rfl⟩
          | exact ⟨some ad, n, cp, true, hv, e, 0, hu, .inr ⟨rfl, rfl⟩, rfl⟩
      · cases hc
    refine Good.pure hR (v := .bool b) ?_ (.bool _)
    simp only [execOp, ho, hv]
    have hyv : a.eval (.const (.slice none 0 0)) = .slice none 0 0 := rfl
    rw [hyv]
    rw [Sem.run_bind, Sem.run_bind, eqGuard_plain _ _ _ _ _ _ (by simp) (by simp), Result.andThen_ok]
    rcases hop with ⟨rfl, rfl⟩ | ⟨rfl, rfl⟩
    · simp only [binOp, Sem.run_bind, Op.equal, Op.maxDepth]
      rw [run_equalIn_nil w 9999 t ad n cp hty]; rfl
    · simp only [binOp, Sem.run_bind, Op.equal, Op.maxDepth]
      rw [run_equalIn_nil w 9999 t ad n cp hty]; rfl
  obtain ⟨z, hz, hr⟩ := binop_sound (x := x) (y := y) hT (hF.ev x) (hF.ev y) hc
  refine Good.pure hR (v := z) ?_ hr
  simp only [execOp, ho]
  rw [Sem.run_bind, hz]; rfl

theorem op_unOp {o : Oper} {op : UnOp} {t : TypeId} {x : Operand} (ho : o.op = .unOp op t x) {fr : Fr} {a : Act} (hR : Rel X ρ σ w) (hF : FR X ρ σ w fr a) {r : AStep}
    (h : astep T o fr σ = some r) : Good X ρ σ w r ((execOp a.eval o).run P w) := by
  simp only [astep, ho] at h
  obtain ⟨c, hc, rfl⟩ := val_some h
  have hx := hF.ev x
  unfold unop at hc
  split at hc
  · rename_i e; rw [e] at hx; have hx := hx.int_inv; cases hc
    exact Good.pure hR (by simp only [execOp, ho, hx, Op.unary, Op.intArith]; rfl) (.int _ _)
  · rename_i e; rw [e] at hx; have hx := hx.int_inv; cases hc
    exact Good.pure hR (by simp only [execOp, ho, hx, Op.unary, Op.intBits]; rfl) (.int _ _)
  · rename_i e; rw [e] at hx; have hx := hx.bool_inv; cases hc
    exact Good.pure hR (by simp only [execOp, ho, hx, Op.unary]; rfl) (.bool _)
  · cases hc

theorem vrs_map {M : Nat → Prop} {fr : Fr} {a : Act} (xs : Array Operand) (h : ∀ x, VR w M ρ σ (ev fr x) (a.eval x)) : VRs w M ρ σ (xs.toList.map (ev fr)) (xs.map a.eval) := by
  refine ⟨by simp, ?_⟩
  intro i c v hc hv
  rw [List.getElem?_map] at hc
  rw [Array.getElem?_map] at hv
  rw [Array.getElem?_toList] at hc
  cases hx : xs[i]? with
  | none => rw [hx] at hc; cases hc
  | some x =>
    rw [hx] at hc hv
    simp at hc hv
    subst hc; subst hv
    exact h x

theorem op_makeFunc {o : Oper} {f : FuncId} {xs ys : Array Operand} (ho : o.op = .makeFunc (.func f) xs ys) {fr : Fr} {a : Act} (hR : Rel X ρ σ w) (hF : FR X ρ σ w fr a) {r : AStep}
    (h : astep T o fr σ = some r) : Good X ρ σ w r ((execOp a.eval o).run P w) := by
  simp only [astep, ho, Option.some.injEq] at h
  subst h
  refine Good.pure hR (v := .func (.func f) (xs.map a.eval) (ys.map a.eval)) (by simp only [execOp, ho, Instr.makeFunc]; rfl) ?_
  have h1 := vrs_map (ρ := ρ) (σ := σ) xs hF.ev
  have h2 := vrs_map (ρ := ρ) (σ := σ) ys hF.ev
  exact .clo f _ _ _ _ h1.1 h2.1 h1.2 h2.2

theorem op_extract {o : Oper} {x : Operand} {i : Nat} (ho : o.op = .extract x i) {fr : Fr} {a : Act} (hR : Rel X ρ σ w) (hF : FR X ρ σ w fr a) {r : AStep}
    (h : astep T o fr σ = some r) : Good X ρ σ w r ((execOp a.eval o).run P w) := by
  simp only [astep, ho] at h
  have hx := hF.ev x
  split at h
  · rename_i vs e
    obtain ⟨c, hc, rfl⟩ := val_some h
    rw [e] at hx
    cases he : a.eval x <;> rw [he] at hx <;> cases hx
    rename_i cvs hs hvr
    have hi : i < cvs.size := by have := (List.getElem?_eq_some_iff.1 hc).1; omega
    refine Good.pure hR (v := cvs[i]) ?_ (hvr i c _ hc (Array.getElem?_eq_getElem hi))
    simp only [execOp, ho, he, Instr.extract, Array.getElem?_eq_getElem hi]; rfl
  · cases h

theorem field?_some {s : TypeId} {f : Nat} {off : Nat} {i : TI} (h : field? T s f = some (off, i)) :
    ∃ fs fd z b zz fl, T.ty s = some ⟨.struct fs, z, b, zz, fl⟩ ∧ fs[f]? = some fd ∧ T.ty fd.type = some i ∧ fd.offset = off := by
  unfold field? at h
  split at h
  · rename_i fs z b zz fl hs
    split at h
    · rename_i fd hfd
      simp only [Option.map_eq_some_iff, Prod.mk.injEq] at h
      obtain ⟨i', hi, rfl, rfl⟩ := h
      exact ⟨fs, fd, z, b, zz, fl, hs, hfd, hi, rfl⟩
    · cases h
  · cases h

theorem fptr_drop {M : Nat → Prop} {cs : List AV} {v : Value} (h : VR w M ρ σ (.fptr cs) v) (n : Nat) : ∃ ad, v = .pointer (some ad) ∧ VR w M ρ σ (.fptr (cs.drop n)) (.pointer (some (ad.add n))) := by
  cases h with
  | fptr _ a vs hs hb hm hcl hvr =>
    refine ⟨a, rfl, ?_⟩
    have hbl : (a.add n).block = a.block := by unfold Addr.add; split <;> rfl
    have hsp : (a.add n).spot = none := by unfold Addr.add; split <;> simp_all
    have hadd : ∀ j, (a.add n).add j = a.add (n + j) := by
      intro j; obtain ⟨b, o, s⟩ := a; simp only at hs; subst hs; rw [add_lit, add_lit, add_lit, Nat.add_assoc]
    refine .fptr _ _ (fun j => vs (n + j)) hsp (by rw [hbl]; exact hb) (by rw [hbl]; exact hm) ?_ ?_
    · intro j hj
      rw [hadd]; exact hcl (n + j) (by simp at hj; omega)
    · intro j c hc
      rw [List.getElem?_drop] at hc
      exact hvr _ c hc

theorem fptr_take {M : Nat → Prop} {cs : List AV} {v : Value} (h : VR w M ρ σ (.fptr cs) v) (n : Nat) : VR w M ρ σ (.fptr (cs.take n)) v := by
  cases h with
  | fptr _ a vs hs hb hm hcl hvr =>
    refine .fptr _ _ vs hs hb hm (fun j hj => hcl j (by simp at hj; omega)) ?_
    intro j c hc
    rw [List.getElem?_take] at hc
    split at hc
    · exact hvr j c hc
    · cases hc

theorem ptr_moved {M : Nat → Prop} {id ver off : Nat} {v : Value} (h : VR w M ρ σ (.ptr id ver off) v) (n : Nat) (ad : Addr) (hv : v = .pointer (some ad)) :
    VR w M ρ σ (.ptr id ver (off + n)) (.pointer (some (ad.add n))) := by
  subst hv
  cases h with
  | ptr _ _ _ _ h0 h1 h2 =>
    refine .ptr _ _ _ _ ⟨_, rfl⟩ h1 (fun o ho hver hc => ?_)
    have := h2 o ho hver hc
    injection this with this; injection this with this
    rw [this, add_lit, Nat.add_assoc]

end Go.Am

/- Places and parts: fields, elements, slices; lengths; what a map holds. -/
set_option linter.unusedVariables false
set_option linter.unusedSimpArgs false
namespace Go.Am
variable {P : Program} {T : Tab} {X : Nat → Prop} {ρ : Rho} {σ : St} {w : World}

theorem op_fieldAddr {o : Oper} {s : TypeId} {f : Nat} {x : Operand} (ho : o.op = .fieldAddr s x f) {fr : Fr} {a : Act} (hT : TabOK P T) (hR : Rel X ρ σ w) (hF : FR X ρ σ w fr a) {r : AStep}
    (h : astep T o fr σ = some r) : Good X ρ σ w r ((execOp a.eval o).run P w) := by
  simp only [astep, ho, Option.bind_eq_some_iff] at h
  obtain ⟨⟨off, i⟩, hf, h⟩ := h
  obtain ⟨fs, fd, z, b, zz, fl, hs, hfd, hi, rfl⟩ := field?_some hf
  by_cases hz : i.size = 0
  · simp [hz] at h
  · simp only [hz, if_false] at h
    have hx := hF.ev x
    have run : ∀ ad, a.eval x = .pointer (some ad) → (execOp a.eval o).run P w = .ok (.value (.pointer (some (ad.add fd.offset)))) w := by
      intro ad e
      simp only [execOp, ho, Instr.fieldAt, e, Instr.sureAddr, Sem.run_bind, run_underlying (hT.ty _ _ hs).und, Result.andThen_ok, hfd, Sem.run_pure, fieldPlace, (hT.ty _ _ hi).sizeOf, Sem.run_ite, if_neg hz]
    split at h
    · rename_i id ver o' he
      cases h
      rw [he] at hx
      obtain ⟨ad, e⟩ := hx.ptr_inv
      exact Good.pure hR (run ad e) (ptr_moved hx fd.offset ad e)
    · rename_i cs he
      cases h
      rw [he] at hx
      obtain ⟨ad, e, hv⟩ := fptr_drop hx fd.offset
      exact Good.pure hR (run ad e) hv
    · cases h

/-- A part of a struct's value. -/
theorem part_sound {t : TypeId} {i : TI} (hty : TyOK P t i) {cs : List AV} {vs : Array Value} {M : Nat → Prop} (h : VRs w M ρ σ cs vs) {off : Nat} (hle : off + i.size ≤ cs.length) {c : AV}
    (hc : chunkLoad i ((cs.drop off).take i.size) = some c) : ∃ v, (part t vs off).run P w = .ok v w ∧ VR w M ρ σ c v := by
  unfold chunkLoad at hc
  simp only [part, Sem.run_bind, hty.isAgg, Result.andThen_ok, Sem.run_ite]
  by_cases ha : i.agg = true
  · simp only [ha, if_true, Option.some.injEq] at hc ⊢
    subst hc
    simp only [Sem.run_bind, hty.sizeOf, Result.andThen_ok, Sem.run_pure]
    refine ⟨_, rfl, .agg _ _ (by simp [h.1]; omega) ?_⟩
    intro j c v hj hv
    rw [List.getElem?_take] at hj
    split at hj
    · rename_i hji
      rw [List.getElem?_drop] at hj
      rw [Array.getElem?_extract] at hv
      split at hv
      · exact h.2 _ _ _ hj hv
      · cases hv
    · cases hj
  · simp only [ha, if_false, Bool.false_eq_true] at hc ⊢
    split at hc
    · rename_i v hcs
      split at hc
      · cases hc
        have hs : i.size = 1 := by
          have := congrArg List.length hcs
          simp at this; omega
        have hlt : off < vs.size := by rw [h.1]; omega
        have h0 : cs[off]? = some c := by
          have := congrArg (fun l => l[0]?) hcs
          simpa [List.getElem?_take, List.getElem?_drop, hs] using this
        rw [Array.getElem?_eq_getElem hlt]
        exact ⟨_, rfl, h.2 off c _ h0 (Array.getElem?_eq_getElem hlt)⟩
      · cases hc
    · cases hc

theorem VR.agg_inv {M : Nat → Prop} {cs : List AV} {v : Value} (h : VR w M ρ σ (.agg cs) v) : ∃ vs, v = .agg vs ∧ VRs w M ρ σ cs vs := by
  cases h with
  | agg _ vs h1 h2 => exact ⟨vs, rfl, h1, h2⟩

theorem op_field {o : Oper} {s : TypeId} {f : Nat} {x : Operand} (ho : o.op = .field s x f) {fr : Fr} {a : Act} (hT : TabOK P T) (hR : Rel X ρ σ w) (hF : FR X ρ σ w fr a) {r : AStep}
    (h : astep T o fr σ = some r) : Good X ρ σ w r ((execOp a.eval o).run P w) := by
  simp only [astep, ho, Option.bind_eq_some_iff] at h
  obtain ⟨⟨off, i⟩, hf, h⟩ := h
  obtain ⟨fs, fd, z, b, zz, fl, hs, hfd, hi, rfl⟩ := field?_some hf
  have hx := hF.ev x
  split at h
  · rename_i cs he
    rw [he] at hx
    obtain ⟨vs, e, hvs⟩ := hx.agg_inv
    split at h
    · rename_i hle
      obtain ⟨c, hc, rfl⟩ := val_some h
      obtain ⟨v, hrun, hv⟩ := part_sound (hT.ty _ _ hi) hvs hle hc
      refine Good.pure hR (v := v) ?_ hv
      simp only [execOp, ho, Instr.field, e, asAgg, Sem.run_bind, run_underlying (hT.ty _ _ hs).und, Result.andThen_ok, hfd, Sem.run_pure, hrun]
    · cases h
  · cases h

theorem op_index {o : Oper} {t : TypeId} {x ix : Operand} (ho : o.op = .index t x ix) {fr : Fr} {a : Act} (hT : TabOK P T) (hR : Rel X ρ σ w) (hF : FR X ρ σ w fr a) {r : AStep}
    (h : astep T o fr σ = some r) : Good X ρ σ w r ((execOp a.eval o).run P w) := by
  simp only [astep, ho] at h
  obtain ⟨c, hc, rfl⟩ := val_some h
  have hx := hF.ev x
  have hix := hF.ev ix
  unfold index1 at hc
  split at hc
  · rename_i len e sz b zz fl cs k i ht he1 he2
    simp only [Option.bind_eq_bind, Option.bind_eq_some_iff] at hc
    obtain ⟨ti, hti, hc⟩ := hc
    rw [he1] at hx; rw [he2] at hix
    obtain ⟨vs, e1, hvs⟩ := hx.agg_inv
    have e2 := hix.int_inv
    split at hc
    · rename_i hle
      obtain ⟨h0, h1, h2⟩ := hle
      obtain ⟨v, hrun, hv⟩ := part_sound (off := i.toNat * ti.size) (hT.ty _ _ hti) hvs (by rw [Nat.add_mul] at h2; omega) hc
      refine Good.pure hR (v := v) ?_ hv
      simp only [execOp, ho, Instr.index, e1, e2, asIntOf, Sem.run_bind, run_underlying (hT.ty _ _ ht).und, Result.andThen_ok, Sem.run_pure]
      simp [h0, h1, (hT.ty _ _ hti).sizeOf, hrun]
    · cases hc
  · rename_i sz b zz fl s k i ht he1 he2
    rw [he1] at hx; rw [he2] at hix
    have e1 := hx.str_inv
    have e2 := hix.int_inv
    split at hc
    · rename_i h0
      simp only [Option.map_eq_some_iff] at hc
      obtain ⟨by_, hb, rfl⟩ := hc
      refine Good.pure hR (v := .int .u8 by_.toNat) ?_ (.int _ _)
      have hg : (⟨s.toArray⟩ : ByteArray)[i.toNat]? = some by_ := by
        have hlt := (List.getElem?_eq_some_iff.1 hb).1
        rw [ByteArray.getElem?_lt' _ _ (by simpa [ByteArray.size] using hlt)]
        congr 1
        rw [List.getElem?_eq_getElem hlt] at hb
        cases hb
        rfl
      simp only [execOp, ho, Instr.index, e1, e2, asIntOf, Sem.run_bind, run_underlying (hT.ty _ _ ht).und, Result.andThen_ok, Sem.run_pure]
      simp [h0, hg]
    · cases hc
  · cases hc

theorem op_indexAddr {o : Oper} {t : TypeId} {x ix : Operand} (ho : o.op = .indexAddr t x ix) {fr : Fr} {a : Act} (hT : TabOK P T) (hR : Rel X ρ σ w) (hF : FR X ρ σ w fr a) {r : AStep}
    (h : astep T o fr σ = some r) : Good X ρ σ w r ((execOp a.eval o).run P w) := by
  simp only [astep, ho] at h
  obtain ⟨c, hc, rfl⟩ := val_some h
  have hx := hF.ev x
  have hix := hF.ev ix
  unfold indexA at hc
  split at hc
  · rename_i len e sz b zz fl k i ht he2
    simp only [Option.bind_eq_bind, Option.bind_eq_some_iff] at hc
    obtain ⟨ti, hti, hc⟩ := hc
    rw [he2] at hix
    have e2 := hix.int_inv
    split at hc
    · rename_i hle
      have run : ∀ ad, a.eval x = .pointer (some ad) → (execOp a.eval o).run P w = .ok (.value (.pointer (some (ad.add (i.toNat * ti.size))))) w := by
        intro ad e
        simp only [execOp, ho, Instr.indexAt, e, e2, Instr.sureAddr, asIntOf, Sem.run_bind, run_underlying (hT.ty _ _ ht).und, Result.andThen_ok, Sem.run_pure]
        simp [hle.1, hle.2, (hT.ty _ _ hti).sizeOf]
      split at hc
      · rename_i id ver off he
        cases hc
        rw [he] at hx
        obtain ⟨ad, e⟩ := hx.ptr_inv
        exact Good.pure hR (run ad e) (ptr_moved hx _ ad e)
      · rename_i cs he
        cases hc
        rw [he] at hx
        obtain ⟨ad, e, hv⟩ := fptr_drop hx (i.toNat * ti.size)
        exact Good.pure hR (run ad e) hv
      · cases hc
    · cases hc
  · rename_i e sz b zz fl k i ht he2
    simp only [Option.bind_eq_bind, Option.bind_eq_some_iff] at hc
    obtain ⟨ti, hti, hc⟩ := hc
    rw [he2] at hix
    have e2 := hix.int_inv
    have run : ∀ ad (n : Nat) cap, a.eval x = .slice (some ad) n cap → 0 ≤ i → i < n → (execOp a.eval o).run P w = .ok (.value (.pointer (some (ad.add (i.toNat * ti.size))))) w := by
      intro ad n cap e h0 h1
      simp only [execOp, ho, Instr.indexAt, e, e2, Instr.sureAddr, asIntOf, Sem.run_bind, run_underlying (hT.ty _ _ ht).und, Result.andThen_ok, Sem.run_pure]
      simp [h0, h1, (hT.ty _ _ hti).sizeOf]
    split at hc
    · rename_i id ver off n k' he
      split at hc
      · rename_i hle
        obtain ⟨h0, h1, h2⟩ := hle
        cases hc
        rw [he] at hx
        subst h2
        cases hx with
        | ref _ _ _ _ _ _ hsh hid hlive =>
          obtain ⟨ad, cap, e, _⟩ := hsh
          refine Good.pure hR (run ad n cap e h0 h1) ?_
          refine .ptr _ _ _ _ ⟨_, rfl⟩ hid (fun o ho hver hcl => ?_)
          obtain ⟨cap', e', _⟩ := hlive o ho hver hcl
          rw [e] at e'
          injection e' with e'
          injection e' with e'
          rw [e', add_lit, Nat.add_assoc]
      · cases hc
    · rename_i n cs he
      split at hc
      · rename_i hle
        obtain ⟨h0, h1, h2⟩ := hle
        cases hc
        rw [he] at hx
        generalize e : a.eval x = vx at hx
        cases hx with
        | snap0 => simp at h1; omega
        | snap _ _ ad cap vs hs hb hm hcp hn hcl hvr =>
          have hp : VR w (Mu X ρ σ) ρ σ (.fptr cs) (.pointer (some ad)) := .fptr cs ad vs hs hb hm hcl hvr
          obtain ⟨ad', e', hv⟩ := fptr_drop hp (i.toNat * ti.size)
          cases e'
          exact Good.pure hR (run ad n cap e h0 h1) (fptr_take hv _)
      · cases hc
    · cases hc
  · cases hc

end Go.Am

/- Slice expressions; lengths; what a map holds. -/
set_option linter.unusedVariables false
set_option linter.unusedSimpArgs false
namespace Go.Am
variable {P : Program} {T : Tab} {X : Nat → Prop} {ρ : Rho} {σ : St} {w : World}

def Bd (v : Option Value) (d y r : Nat) : Prop := (v = none ∧ r = d) ∨ ∃ k i, v = some (.int k i) ∧ 0 ≤ i ∧ i ≤ (y : Int) ∧ r = i.toNat

theorem bnd_sound {fr : Fr} {a : Act} (hF : FR X ρ σ w fr a) {x : Option Operand} {d y r : Nat} (h : bnd (x.map (ev fr)) d y = some r) : Bd (x.map a.eval) d y r := by
  cases x with
  | none => simp [bnd] at h; exact .inl ⟨rfl, h.symm⟩
  | some x =>
    simp only [Option.map_some, bnd] at h
    split at h
    · rename_i k i he
      have hx := hF.ev x
      rw [he] at hx
      have e := hx.int_inv
      split at h
      · rename_i hc
        cases h
        exact .inr ⟨k, i, by simp [e], hc.1, hc.2, rfl⟩
      · cases h
    · cases h

theorem Bd.mono {v : Option Value} {d y y' r : Nat} (h : Bd v d y r) (hy : y ≤ y') : Bd v d y' r := by
  rcases h with h | ⟨k, i, h1, h2, h3, h4⟩
  · exact .inl h
  · exact .inr ⟨k, i, h1, h2, by omega, h4⟩

theorem Bd.le {v : Option Value} {d y r : Nat} (h : Bd v d y r) (hd : d ≤ y) : r ≤ y := by
  rcases h with h | ⟨k, i, h1, h2, h3, h4⟩ <;> omega

theorem run_bound {k : IntKind} {i : Int} {y : Nat} {c : BoundsCode} (h0 : 0 ≤ i) (h1 : i ≤ y) : (Instr.sliceBound (.int k i) y c).run P w = .ok i.toNat w := by
  simp [Instr.sliceBound, asIntOf, h0, h1]

theorem run_bounds2 {b : Bool} {n cap : Nat} {lo hi : Option Value} {l h : Nat} (hh : Bd hi n cap h) (hl : Bd lo 0 h l) : (Instr.sliceBounds b n cap lo hi none).run P w = .ok (l, h, cap) w := by
  rcases hh with ⟨rfl, rfl⟩ | ⟨k, i, rfl, h0, h1, rfl⟩ <;> rcases hl with ⟨rfl, rfl⟩ | ⟨k', i', rfl, h0', h1', rfl⟩
  · simp [Instr.sliceBounds]
  · simp [Instr.sliceBounds, run_bound h0' h1']
  · simp [Instr.sliceBounds, run_bound h0 h1]
  · simp [Instr.sliceBounds, run_bound h0 h1, run_bound h0' h1']

theorem run_bounds3 {b : Bool} {n cap : Nat} {lo : Option Value} {hi mx : Value} {l h m : Nat} (hm : Bd (some mx) 0 cap m) (hh : Bd (some hi) 0 m h) (hl : Bd lo 0 h l) :
    (Instr.sliceBounds b n cap lo (some hi) (some mx)).run P w = .ok (l, h, m) w := by
  rcases hm with ⟨h, _⟩ | ⟨k, i, e, h0, h1, rfl⟩
  · cases h
  cases e
  rcases hh with ⟨h, _⟩ | ⟨k1, i1, e1, h01, h11, rfl⟩
  · cases h
  cases e1
  rcases hl with ⟨rfl, rfl⟩ | ⟨k2, i2, rfl, h02, h12, rfl⟩
  · simp [Instr.sliceBounds, run_bound h0 h1, run_bound h01 h11]
  · simp [Instr.sliceBounds, run_bound h0 h1, run_bound h01 h11, run_bound h02 h12]

theorem take_drop_str (s : List UInt8) (l h : Nat) : ((⟨s.toArray⟩ : ByteArray).extract l h).data.toList = (s.take h).drop l := by
  rw [ByteArray.data_extract]
  simp [List.extract_eq_take_drop, List.drop_take]

theorem snap_sub {M : Nat → Prop} {n : Nat} {cs : List AV} {ad : Addr} {cap k : Nat} (hv : VR w M ρ σ (.snap n cs) (.slice (some ad) n cap)) (hl : cs.length = n * k) {l h : Nat} (h1 : l ≤ h) (h2 : h ≤ n) (hcap : n ≤ cap) :
    VR w M ρ σ (.snap (h - l) ((cs.drop (l * k)).take ((h - l) * k))) (.slice (if cap = l then some ad else some (ad.add (l * k))) (h - l) (cap - l)) := by
  by_cases e : h = l
  · subst e
    simp only [Nat.sub_self, Nat.zero_mul, List.take_zero]
    exact .snap0 _ _
  · have hcl : cap ≠ l := by omega
    rw [if_neg hcl]
    cases hv with
    | snap0 => omega
    | snap _ _ _ _ vs hs hb hm hcp hn hcell hvr =>
      have hbl : (ad.add (l * k)).block = ad.block := by unfold Addr.add; split <;> rfl
      have hsp : (ad.add (l * k)).spot = none := by unfold Addr.add; split <;> simp_all
      have hadd : ∀ j, (ad.add (l * k)).add j = ad.add (l * k + j) := by
        intro j; obtain ⟨b, o, s⟩ := ad; simp only at hs; subst hs; rw [add_lit, add_lit, add_lit, Nat.add_assoc]
      refine .snap _ _ _ _ (fun j => vs (l * k + j)) hsp (by rw [hbl]; exact hb) (by rw [hbl]; exact hm) (by omega) (by omega) ?_ ?_
      · intro j hj
        rw [hadd]; exact hcell _ (by simp at hj; omega)
      · intro j c hc
        rw [List.getElem?_take] at hc
        split at hc
        · rw [List.getElem?_drop] at hc; exact hvr _ c hc
        · cases hc

theorem sLen_sound {k : Nat} {x : AV} {n : Nat} (h : sLen k x = some n) {M : Nat → Prop} {v : Value} (hv : VR w M ρ σ x v) : ∃ ad cap, v = .slice ad n cap ∧ n ≤ cap ∧ (n ≠ 0 → ∃ ad', ad = some ad') := by
  cases x with
  | nil0 =>
    simp only [sLen, Option.some.injEq] at h
    subst h
    cases hv with
    | nil0 ad => exact ⟨ad, 0, rfl, Nat.le_refl _, fun h => absurd rfl h⟩
  | snap n' cs =>
    simp only [sLen] at h
    split at h
    · cases h
      cases hv with
      | snap0 ad cap => exact ⟨ad, cap, rfl, Nat.zero_le _, fun h => absurd rfl h⟩
      | snap _ _ ad cap vs hs hb hm hcp hn hcell hvr => exact ⟨some ad, cap, rfl, hcp, fun _ => ⟨ad, rfl⟩⟩
    · cases h
  | ref id ver off n' k' =>
    simp only [sLen] at h
    split at h
    · cases h
      cases hv with
      | ref _ _ _ _ _ _ hsh hid hlive =>
        obtain ⟨ad, cap, rfl, hc⟩ := hsh
        exact ⟨_, _, rfl, hc, fun _ => ⟨ad, rfl⟩⟩
    · cases h
  | _ => simp [sLen] at h

theorem sCut_sound {k l h n : Nat} {x c : AV} (hn : sLen k x = some n) (hc : sCut k l h x = some c) (h1 : l ≤ h) (h2 : h ≤ n) {M : Nat → Prop} {ad : Option Addr} {cap : Nat} (hv : VR w M ρ σ x (.slice ad n cap)) (hcap : n ≤ cap) :
    VR w M ρ σ c (.slice (if cap = l then ad else ad.map (·.add (l * k))) (h - l) (cap - l)) := by
  cases x with
  | nil0 =>
    simp only [sCut, Option.some.injEq] at hc
    subst hc
    cases hv with
    | nil0 ad =>
      have e1 : h - l = 0 := by omega
      have e2 : 0 - l = 0 := by omega
      rw [e1, e2]
      exact .nil0 _
  | snap n' cs =>
    simp only [sLen] at hn
    split at hn
    · rename_i hl
      cases hn
      simp only [sCut, Option.some.injEq] at hc
      subst hc
      cases hcd : ad with
      | none =>
        subst hcd
        cases hv with
        | snap0 =>
          have e1 : h - l = 0 := by omega
          rw [e1, Nat.zero_mul, List.take_zero]
          exact .snap0 _ _
      | some ad' =>
        subst hcd
        exact snap_sub hv hl h1 h2 hcap
    · cases hn
  | ref id ver off n' k' =>
    simp only [sLen] at hn
    split at hn
    · rename_i hk
      subst hk
      cases hn
      simp only [sCut] at hc
      split at hc
      · rename_i e
        cases hc
        subst e
        rw [Nat.sub_self]
        exact .snap0 _ _
      · rename_i e
        cases hc
        rw [if_neg (by omega)]
        cases hv with
        | ref _ _ _ _ _ _ hsh hid hlive =>
          obtain ⟨ad', cap', e', _⟩ := hsh
          injection e' with e1 e2 e3
          subst e1; subst e3
          refine .ref _ _ _ _ _ _ ⟨_, _, rfl, by omega⟩ hid (fun o ho hver hcl => ?_)
          obtain ⟨cap2, e4, e5, e6⟩ := hlive o ho hver hcl
          injection e4 with e7 e8 e9
          injection e7 with e7
          subst e9
          refine ⟨cap - l, ?_, by omega, ?_⟩
          · rw [e7, Option.map_some, add_lit, Nat.add_assoc]
          · have : l * k' + (cap - l) * k' = cap * k' := by rw [← Nat.add_mul]; congr 1; omega
            omega
    · cases hn
  | _ => simp [sCut] at hc

theorem op_slice {o : Oper} {t : TypeId} {x : Operand} {lo hi mx : Option Operand} (ho : o.op = .slice t x lo hi mx) {fr : Fr} {a : Act} (hT : TabOK P T) (hR : Rel X ρ σ w) (hF : FR X ρ σ w fr a) {r : AStep}
    (h : astep T o fr σ = some r) : Good X ρ σ w r ((execOp a.eval o).run P w) := by
  simp only [astep, ho] at h
  obtain ⟨c, hc, rfl⟩ := val_some h
  have hx := hF.ev x
  unfold sliceOp at hc
  split at hc
  · rename_i sz b zz fl ht
    split at hc
    · rename_i s he hm
      have hm' : mx = none := by cases mx <;> simp_all
      subst hm'
      simp only [Option.bind_eq_some_iff, Option.some.injEq] at hc
      obtain ⟨hh, h1, ll, h2, rfl⟩ := hc
      rw [he] at hx
      have e := hx.str_inv
      have b1 := bnd_sound hF h1
      have b2 := bnd_sound hF h2
      have hsz : (⟨s.toArray⟩ : ByteArray).size = s.length := by simp [ByteArray.size]
      refine Good.pure hR (v := .string ((⟨s.toArray⟩ : ByteArray).extract ll hh)) ?_ (.str _ _ (take_drop_str s ll hh))
      simp only [execOp, ho, Instr.sliceAt, Sem.run_bind, run_underlying (hT.ty _ _ ht).und, Result.andThen_ok, Instr.slice, e, Option.map_none, Option.isSome_none, Bool.false_eq_true, if_false, Sem.run_pure, hsz]
      rw [run_bounds2 b1 b2]; rfl
    · cases hc
  · rename_i e sz b zz fl ht
    simp only [Option.bind_eq_some_iff] at hc
    obtain ⟨i, hi', n, hn, hc⟩ := hc
    obtain ⟨ad, cap, ex, hcap, hsome⟩ := sLen_sound hn hx
    rw [ex] at hx
    split at hc
    · rename_i hm
      have hm' : mx = none := by cases mx <;> simp_all
      subst hm'
      simp only [Option.bind_eq_some_iff] at hc
      obtain ⟨hh, h1, ll, h2, hc⟩ := hc
      have b1 := bnd_sound hF h1
      have b2 := bnd_sound hF h2
      refine Good.pure hR (v := _) ?_ (sCut_sound hn hc (b2.le (Nat.zero_le _)) (b1.le (Nat.le_refl _)) hx hcap)
      simp only [execOp, ho, Instr.sliceAt, Sem.run_bind, run_underlying (hT.ty _ _ ht).und, Result.andThen_ok, Instr.slice, ex, Option.map_none]
      rw [run_bounds2 (b1.mono hcap) b2]
      simp only [Result.andThen_ok, (hT.ty _ _ hi').sizeOf, Sem.run_pure]
    · rename_i m hm
      simp only [Option.bind_eq_some_iff] at hc
      obtain ⟨mm, h0, hh, h1, ll, h2, hc⟩ := hc
      rw [← hm] at h0
      have b0 := bnd_sound hF h0
      have b1 := bnd_sound hF h1
      have b2 := bnd_sound hF h2
      split at hc
      · rename_i hcc
        cases hc
        obtain ⟨hsm, rfl⟩ := hcc
        cases hi with
        | none => simp at hsm
        | some hi =>
        cases mx with
        | none => cases hm
        | some mx =>
          have l1 := b2.le (Nat.zero_le _)
          have l2 := b1.le (Nat.zero_le _)
          have e0 : hh - mm = 0 := by omega
          refine Good.pure hR (v := .slice ad 0 0) ?_ (.nil0 _)
          simp only [execOp, ho, Instr.sliceAt, Sem.run_bind, run_underlying (hT.ty _ _ ht).und, Result.andThen_ok, Instr.slice, ex, Option.map_some]
          rw [run_bounds3 (b0.mono hcap) b1 b2]
          simp only [Result.andThen_ok, (hT.ty _ _ hi').sizeOf, Sem.run_pure, if_true, Nat.sub_self, e0]
      · cases hc
  · cases hc

end Go.Am

/- Operations that make or write objects. -/
set_option linter.unusedVariables false
set_option linter.unusedSimpArgs false
namespace Go.Am
variable {P : Program} {T : Tab} {X : Nat → Prop} {ρ : Rho} {σ : St} {w : World}

/-! Cells set one after the other -/
theorem setCells_same (g : Nat) : ∀ (vs : List Value) (o : Nat) (w : World), (w.setCells g o vs).os = w.os ∧ (w.setCells g o vs).tape = w.tape ∧ ((w.setCells g o vs).output = w.output ∧ w.drawn ≤ (w.setCells g o vs).drawn) ∧
    (w.setCells g o vs).heap.size = w.heap.size ∧ ∀ b, b ≠ g → (w.setCells g o vs).heap[b]? = w.heap[b]?
  | [], o, w => ⟨rfl, rfl, ⟨rfl, Nat.le_refl _⟩, rfl, fun _ _ => rfl⟩
  | v :: r, o, w => by
    obtain ⟨h1, h2, h3, h4, h5⟩ := setCells_same g r (o + 1) (w.setCell ⟨g, o, none⟩ v)
    refine ⟨h1, h2, h3, h4.trans (World.size_setCell ..), fun b hb => (h5 b hb).trans (heap_setCell_other w ⟨g, o, none⟩ b v hb)⟩

theorem setCells_block (g : Nat) (e : TypeId) (fz : Nat × Nat) : ∀ (vs : List Value) (o : Nat) (w : World) (cur : Array Value), w.heap[g]? = some (.cells cur e fz) → o + vs.length ≤ cur.size →
    ∃ cur' : Array Value, (w.setCells g o vs).heap[g]? = some (.cells cur' e fz) ∧ cur'.size = cur.size ∧
      (∀ j, j < vs.length → cur'[o + j]? = vs[j]?) ∧ ∀ j, (j < o ∨ o + vs.length ≤ j) → cur'[j]? = cur[j]?
  | [], o, w, cur, h, hl => ⟨cur, h, rfl, fun j hj => by simp at hj, fun _ _ => rfl⟩
  | v :: r, o, w, cur, h, hl => by
    have hg : (w.setCell ⟨g, o, none⟩ v).heap[g]? = some (.cells (cur.setIfInBounds o v) e fz) := by
      simp [World.setCell, Array.getElem?_modify, h]
    obtain ⟨cur', h1, h2, h3, h4⟩ := setCells_block g e fz r (o + 1) (w.setCell ⟨g, o, none⟩ v) _ hg (by simp at hl ⊢; omega)
    refine ⟨cur', h1, by simpa using h2, ?_, ?_⟩
    · intro j hj
      cases j with
      | zero =>
        rw [Nat.add_zero, h4 o (.inl (by omega)), Array.getElem?_setIfInBounds, if_pos rfl]
        simp at hl
        rw [if_pos (by omega)]; rfl
      | succ j =>
        have := h3 j (by simp at hj; omega)
        rw [show o + 1 + j = o + (j + 1) by omega] at this
        simpa using this
    · intro j hj
      rw [h4 j (by simp at hj; omega), Array.getElem?_setIfInBounds, if_neg (by simp at hj; omega)]

theorem get_splice {cs new : List AV} {off : Nat} (h : off + new.length ≤ cs.length) (j : Nat) :
    (splice cs off new)[j]? = if j < off then cs[j]? else if j < off + new.length then new[j - off]? else cs[j]? := by
  unfold splice
  rw [List.append_assoc, List.getElem?_append]
  have hl : (cs.take off).length = off := by simp; omega
  rw [hl]
  split
  · rw [List.getElem?_take]; simp [*]
  · rename_i h1
    rw [List.getElem?_append]
    split
    · rename_i h2; rw [if_pos (by omega)]
    · rename_i h2
      rw [if_neg (by omega), List.getElem?_drop]
      congr 1; omega

theorem len_splice {cs new : List AV} {off : Nat} (h : off + new.length ≤ cs.length) : (splice cs off new).length = cs.length := by simp [splice]; omega

/-- Cells of an object are written. -/
theorem write_sound (hR : Rel X ρ σ w) {id ver off : Nat} {new : List AV} {σ' : St} (h : wr σ id ver off new = some σ') {vs : List Value} (hlen : vs.length = new.length)
    (hvr : ∀ (j : Nat) c v, new[j]? = some c → vs[j]? = some v → VR w (Mu X ρ σ) ρ σ c v) :
    ∃ g o, (∀ p, VR w (Mu X ρ σ) ρ σ (.ptr id ver off) p → p = .pointer (some ⟨g, o, none⟩)) ∧
      (∀ n k p, VR w (Mu X ρ σ) ρ σ (.ref id ver off n k) p → ∃ cap, p = .slice (some ⟨g, o, none⟩) n cap ∧ n ≤ cap) ∧ (∀ v ∈ vs, v.oneCell' = true) ∧
      (∀ j, j < vs.length → (w.cell? ⟨g, o + j, none⟩).isSome = true) ∧ (∀ j, j < vs.length → w.frozen? ⟨g, o + j, none⟩ = false) ∧
      ∃ ρ', Rel X ρ' σ' (w.setCells g o vs) ∧ Tr ρ σ w ρ' σ' (w.setCells g o vs) := by
  unfold wr at h
  split at h
  · rename_i v cs ho
    split at h
    · rename_i hc
      obtain ⟨rfl, hle, hone⟩ := hc
      cases h
      obtain ⟨cur, e, fz, hh, htot, hfit, hfz, hcells⟩ := hR.obj id _ ho
      have hin : ∀ j, j < vs.length → (ρ id).base + off + j < cur.size := fun j hj => by omega
      have ones : ∀ v ∈ vs, v.oneCell' = true := by
        intro v hv
        obtain ⟨j, hj⟩ := List.getElem?_of_mem hv
        have hjl : j < new.length := by rw [← hlen]; exact (List.getElem?_eq_some_iff.1 hj).1
        refine (hvr j new[j] v (List.getElem?_eq_getElem hjl) hj).one ?_
        exact List.all_eq_true.1 hone _ (List.getElem_mem hjl)
      refine ⟨(ρ id).block, (ρ id).base + off, ?_, ?_, ones, ?_, ?_, ?_⟩
      · intro p hp
        cases hp with
        | ptr _ _ _ _ h0 h1 h2 => exact h2 _ ho rfl rfl
      · intro n k p hp
        cases hp with
        | ref _ _ _ _ _ _ h0 h1 h2 =>
          obtain ⟨cap, e1, e2, _⟩ := h2 _ ho rfl rfl
          exact ⟨cap, e1, e2⟩
      · intro j hj
        simp [World.cell?, hh, Array.getElem?_eq_getElem (hin j hj)]
      · intro j hj
        have := hfz _ (hin j hj)
        simp [World.frozen?, hh]
        omega
      · obtain ⟨s1, s2, s3, s4, s5⟩ := setCells_same (ρ id).block vs ((ρ id).base + off) w
        obtain ⟨cur', b1, b2, b3, b4⟩ := setCells_block (ρ id).block e fz vs ((ρ id).base + off) w cur hh (by omega)
        have key := rel_upd (X := X) hR ho rfl ⟨v, .cells (splice cs off new) true⟩ rfl (Nat.le_refl _) (ρ id) (fun _ _ => ⟨rfl, rfl⟩) (fun h => by cases h) (.inl rfl) (w' := w.setCells (ρ id).block ((ρ id).base + off) vs)
          s1 s2 s3 (by omega) (fun b _ hb => s5 b hb) ?_
        · exact ⟨_, key⟩
        · intro t
          refine ⟨cur', e, fz, b1, by omega, by rw [len_splice hle]; omega, fun j hj => hfz j (by omega), ?_⟩
          intro j c hc
          rw [get_splice hle] at hc
          by_cases h1 : j < off
          · rw [if_pos h1] at hc
            obtain ⟨u, hu, hv⟩ := hcells j c hc
            exact ⟨u, by rw [b4 _ (.inl (by omega))]; exact hu, hv.tr t⟩
          · rw [if_neg h1] at hc
            by_cases h2 : j < off + new.length
            · rw [if_pos h2] at hc
              have hjv : j - off < vs.length := by omega
              refine ⟨vs[j - off], ?_, (hvr _ c _ hc (List.getElem?_eq_getElem hjv)).tr t⟩
              have := b3 (j - off) hjv
              rw [show (ρ id).base + off + (j - off) = (ρ id).base + j by omega] at this
              rw [this, List.getElem?_eq_getElem hjv]
            · rw [if_neg h2] at hc
              obtain ⟨u, hu, hv⟩ := hcells j c hc
              exact ⟨u, by rw [b4 _ (.inr (by omega))]; exact hu, hv.tr t⟩
    · cases h
  · cases h

theorem op_store {o : Oper} {t : TypeId} {p x : Operand} (ho : o.op = .store t p x) {fr : Fr} {a : Act} (hT : TabOK P T) (hR : Rel X ρ σ w) (hF : FR X ρ σ w fr a) {r : AStep}
    (h : astep T o fr σ = some r) : Good X ρ σ w r ((execOp a.eval o).run P w) := by
  simp only [astep, ho, Option.bind_eq_some_iff] at h
  obtain ⟨i, hi, h⟩ := h
  have hp := hF.ev p
  have hx := hF.ev x
  split at h
  · rename_i id ver off he
    simp only [Option.bind_eq_some_iff] at h
    obtain ⟨cs, hcs, h⟩ := h
    split at h
    · rename_i hl
      simp only [Option.map_eq_some_iff] at h
      obtain ⟨σ', hw, rfl⟩ := h
      have hc := hx.cells hcs
      have hcl : (a.eval x).cells.toList.length = cs.length := by rw [Array.length_toList]; exact hc.1
      obtain ⟨g, o', h1, _, h3, h4, h5, ρ', h6, h7⟩ := write_sound hR hw (vs := (a.eval x).cells.toList) hcl (fun j c v hj hv => hc.2 j c v hj (by rwa [Array.getElem?_toList] at hv))
      rw [he] at hp
      have e := h1 _ hp
      refine ⟨_, ρ', ?_, h6, h7⟩
      have hst := run_storeCells_cells (P := P) g o' (a.eval x).cells.toList 0 w (by simpa using h4) (by simpa using h5) h3
      simp only [execOp, ho, Instr.storeAt, e, Instr.sureAddr, Sem.run_bind, Sem.run_pure, Result.andThen_ok, storeVar, (hT.ty _ _ hi).sizeOf, Sem.run_ite]
      rw [if_neg (by rw [hc.1, hl]; simp)]
      simp only [Nat.add_zero] at hst
      rw [hst]; rfl
    · cases h
  · cases h

/-! New blocks -/
theorem vr_newptr (σ : St) (ob : OB) (M : Nat → Prop) (p : Pl) (ρ : Rho) (w' : World) :
    VR w' M (upd ρ σ.length p) (σ ++ [⟨0, ob⟩]) (.ptr σ.length 0 0) (.pointer (some ⟨p.block, p.base, none⟩)) := by
  refine .ptr _ _ _ _ ⟨_, rfl⟩ ⟨⟨0, ob⟩, by simp, Nat.le_refl _⟩ (fun o ho _ _ => ?_)
  rw [upd_same, Nat.add_zero]

theorem vr_newref (σ : St) (ob : OB) (M : Nat → Prop) (p : Pl) (ρ : Rho) (w' : World) (n k cap : Nat) (h1 : n ≤ cap) (h2 : p.base + cap * k ≤ p.tot) :
    VR w' M (upd ρ σ.length p) (σ ++ [⟨0, ob⟩]) (.ref σ.length 0 0 n k) (.slice (some ⟨p.block, p.base, none⟩) n cap) := by
  refine .ref _ _ _ _ _ _ ⟨_, _, rfl, h1⟩ ⟨⟨0, ob⟩, by simp, Nat.le_refl _⟩ (fun o ho _ _ => ⟨cap, ?_, h1, ?_⟩)
  · rw [upd_same, Nat.add_zero]
  · rw [upd_same]; omega

/-- A new row of cells. -/
theorem new_cells (hR : Rel X ρ σ w) (e : TypeId) (cur : Array Value) (cs : List AV) {w' : World} (hw : w'.heap = w.heap.push (.cells cur e)) (hos : w'.os = w.os) (htape : w'.tape = w.tape) (hout : w'.output = w.output ∧ w.drawn ≤ w'.drawn)
    (hle : cs.length ≤ cur.size) (hvr : ∀ (j : Nat) c v, cs[j]? = some c → cur[j]? = some v → VR w (Mu X ρ σ) ρ σ c v) :
    Rel X (upd ρ σ.length ⟨w.heap.size, 0, cur.size⟩) (σ ++ [⟨0, .cells cs true⟩]) w' ∧ Tr ρ σ w (upd ρ σ.length ⟨w.heap.size, 0, cur.size⟩) (σ ++ [⟨0, .cells cs true⟩]) w' := by
  refine rel_new hR (.cells cs true) rfl cur.size hos htape hout (by rw [hw]; simp) (fun b hb => by rw [hw, Array.getElem?_push, if_neg (by omega)]) (fun t => ?_)
  refine ⟨cur, e, (0, 0), by rw [hw, Array.getElem?_push, if_pos rfl], rfl, by simpa using hle, fun j hj => by simp, ?_⟩
  intro j c hc
  have hj : j < cur.size := by have := (List.getElem?_eq_some_iff.1 hc).1; omega
  exact ⟨cur[j], by simp [Array.getElem?_eq_getElem hj], (hvr j c _ hc (Array.getElem?_eq_getElem hj)).tr t⟩

theorem zero_vrs {t : TypeId} {i : TI} (hty : TyOK P t i) (w : World) (M : Nat → Prop) (ρ : Rho) (σ : St) : ∃ z info, P.info? t = some info ∧ info.zero = some z ∧ info.size = i.size ∧ info.bytes = i.bytes ∧
    (zeroValue t).run P w = .ok z w ∧ VRs w M ρ σ i.zero z.cells ∧ (i.agg = true → ∃ cs, z = .agg cs) ∧ (i.agg = false → z.oneCell' = true) := by
  obtain ⟨info, z, h1, h2, h3, h4, h5, h6, h7, h8, h9⟩ := hty.info
  refine ⟨z, info, h1, h4, h2, h3, by simp [zeroValue, run_typeInfo h1, h4], ⟨by rw [h5]; simp, ?_⟩, h8, h9⟩
  intro j c v hc hv
  rw [h5, List.getElem?_map, Array.getElem?_toList, hv] at hc
  simp at hc
  subst hc
  exact vr_const ..

theorem op_alloc {o : Oper} {t : TypeId} (ho : o.op = .alloc t) {fr : Fr} {a : Act} (hT : TabOK P T) (hR : Rel X ρ σ w) (hF : FR X ρ σ w fr a) {r : AStep}
    (h : astep T o fr σ = some r) : Good X ρ σ w r ((execOp a.eval o).run P w) := by
  simp only [astep, ho, Option.bind_eq_some_iff] at h
  obtain ⟨i, hi, h⟩ := h
  split at h
  · cases h
    obtain ⟨z, info, _, _, _, _, hz, hvs, _⟩ := zero_vrs (hT.ty _ _ hi) w (Mu X ρ σ) ρ σ
    have key := new_cells hR t z.cells i.zero (w' := w.alloc (.cells z.cells t)) rfl rfl rfl ⟨rfl, by first | exact Nat.le_refl _ | exact Nat.le_succ _⟩ (by rw [hvs.1]; exact Nat.le_refl _) (fun j c v hc hv => hvs.2 j c v hc hv)
    refine ⟨.pointer (some ⟨w.heap.size, 0, none⟩), _, _, ?_, key.1, key.2, vr_newptr ..⟩
    simp [execOp, ho, Instr.alloc, hz, newVar, newRow]
  · cases h

theorem op_box {o : Oper} {t : TypeId} {x : Operand} (ho : o.op = .box t x) {fr : Fr} {a : Act} (hT : TabOK P T) (hR : Rel X ρ σ w) (hF : FR X ρ σ w fr a) {r : AStep}
    (h : astep T o fr σ = some r) : Good X ρ σ w r ((execOp a.eval o).run P w) := by
  simp only [astep, ho, Option.bind_eq_some_iff] at h
  obtain ⟨i, hi, cs, hcs, h⟩ := h
  split at h
  · cases h
    have hc := (hF.ev x).cells hcs
    have key := new_cells hR t (a.eval x).cells cs (w' := w.alloc (.cells (a.eval x).cells t)) rfl rfl rfl ⟨rfl, by first | exact Nat.le_refl _ | exact Nat.le_succ _⟩ (by rw [hc.1]; exact Nat.le_refl _) hc.2
    refine ⟨.pointer (some ⟨w.heap.size, 0, none⟩), _, _, ?_, key.1, key.2, vr_newptr ..⟩
    simp [execOp, ho, Instr.box, newVar, newRow]
  · cases h

end Go.Am

/- Literals: structs, arrays, slices; make. -/
set_option linter.unusedVariables false
set_option linter.unusedSimpArgs false
namespace Go.Am
variable {P : Program} {T : Tab} {X : Nat → Prop} {ρ : Rho} {σ : St} {w : World}

theorem foldl_sets (off : Nat) : ∀ (l : List Value) (k : Nat) (A : Array Value), off + k + l.length ≤ A.size →
    ∃ B : Array Value, (l.zipIdx k).foldl (fun cs (x : Value × Nat) => cs.setIfInBounds (off + x.2) x.1) A = B ∧ B.size = A.size ∧ (∀ j, j < l.length → B[off + k + j]? = l[j]?) ∧
      ∀ j, (j < off + k ∨ off + k + l.length ≤ j) → B[j]? = A[j]?
  | [], k, A, h => ⟨A, rfl, rfl, fun j hj => by simp at hj, fun _ _ => rfl⟩
  | v :: r, k, A, h => by
    simp only [List.length_cons] at h
    obtain ⟨B, h1, h2, h3, h4⟩ := foldl_sets off r (k + 1) (A.setIfInBounds (off + k) v) (by simp; omega)
    refine ⟨B, by rw [List.zipIdx_cons, List.foldl_cons]; exact h1, by simpa using h2, ?_, ?_⟩
    · intro j hj
      cases j with
      | zero =>
        rw [Nat.add_zero, h4 _ (.inl (by omega)), Array.getElem?_setIfInBounds, if_pos rfl, if_pos (by omega)]; rfl
      | succ j =>
        have := h3 j (by simp at hj; omega)
        rw [show off + (k + 1) + j = off + k + (j + 1) by omega] at this
        simpa using this
    · intro j hj
      simp only [List.length_cons] at hj
      rw [h4 j (by omega), Array.getElem?_setIfInBounds, if_neg (by omega)]

theorem fill_sound {M : Nat → Prop} {place : Nat → Option (Nat × Nat)} {fr : Fr} {a : Act} (hF : ∀ x, VR w M ρ σ (ev fr x) (a.eval x)) : ∀ (ps : List (Nat × Operand)) (cs : List AV) (vs : Array Value) {r : List AV}, VRs w M ρ σ cs vs →
    fillA place cs (ps.map fun p => (p.1, ev fr p.2)) = some r → ∃ rs, Instr.fill place vs (ps.map fun p => (p.1, a.eval p.2)) = some rs ∧ VRs w M ρ σ r rs
  | [], cs, vs, r, h, hf => by simp only [List.map_nil, fillA, Option.some.injEq] at hf; subst hf; exact ⟨vs, rfl, h⟩
  | (i, x) :: ps, cs, vs, r, h, hf => by
    simp only [List.map_cons, fillA] at hf
    split at hf
    · rename_i off size new hp hn
      split at hf
      · rename_i hc
        obtain ⟨h1, h2, h3⟩ := hc
        have hv := (hF x).cells hn
        obtain ⟨B, b1, b2, b3, b4⟩ := foldl_sets off (a.eval x).cells.toList 0 vs (by rw [Array.length_toList, hv.1, h1, h.1]; omega)
        have hB : VRs w M ρ σ (splice cs off new) B := by
          refine ⟨by rw [b2, h.1, len_splice (by omega)], ?_⟩
          intro j c v hj hvj
          rw [get_splice (by omega)] at hj
          simp only [Array.length_toList, Nat.add_zero] at b3 b4
          by_cases c1 : j < off
          · rw [if_pos c1] at hj
            rw [b4 j (.inl c1)] at hvj
            exact h.2 _ _ _ hj hvj
          · rw [if_neg c1] at hj
            by_cases c2 : j < off + new.length
            · rw [if_pos c2] at hj
              have := b3 (j - off) (by rw [hv.1]; omega)
              rw [show off + (j - off) = j by omega] at this
              rw [this, Array.getElem?_toList] at hvj
              exact hv.2 _ _ _ hj hvj
            · rw [if_neg c2] at hj
              rw [b4 j (.inr (by rw [hv.1]; omega))] at hvj
              exact h.2 _ _ _ hj hvj
        obtain ⟨rs, r1, r2⟩ := fill_sound hF ps _ _ hB hf
        refine ⟨rs, ?_, r2⟩
        simp only [List.map_cons, Instr.fill, hp]
        rw [if_neg (by rw [hv.1, h1, h.1]; simp; omega), ← Array.foldl_toList, Array.toList_zipIdx, b1]
        exact r1
      · cases hf
    · cases hf

theorem run_mapM_ok {α β : Type} (f : α → Sem β) (g : α → β) (w : World) : ∀ (xs : Array α), (∀ x ∈ xs, (f x).run P w = .ok (g x) w) → (xs.mapM f).run P w = .ok (xs.map g) w := by
  intro xs h
  have key : ∀ l : List α, (∀ x ∈ l, (f x).run P w = .ok (g x) w) → (l.mapM f).run P w = .ok (l.map g) w := by
    intro l
    induction l with
    | nil => intro _; rfl
    | cons x l ih =>
      intro h
      rw [List.mapM_cons, Sem.run_bind, h x (by simp), Result.andThen_ok, Sem.run_bind, ih (fun y hy => h y (by simp [hy])), Result.andThen_ok]
      rfl
  rw [Array.mapM_eq_mapM_toList, Sem.run_map, key _ (fun x hx => h x (by simpa using hx)), Result.andThen_ok]
  congr 1
  apply Array.ext'; simp

theorem places_sound (hT : TabOK P T) {fs : Array Field} {pl : List (Nat × Nat)} (h : (fs.toList.mapM fun fd => (T.ty fd.type).map fun fi => (fd.offset, fi.size)) = some pl) (w : World) :
    (fs.mapM fun f => (do pure (f.offset, ← sizeOf f.type) : Sem (Nat × Nat))).run P w = .ok pl.toArray w := by
  have key : ∀ (l : List Field) (pl : List (Nat × Nat)), (l.mapM fun fd => (T.ty fd.type).map fun fi => (fd.offset, fi.size)) = some pl → (l.mapM fun f => (do pure (f.offset, ← sizeOf f.type) : Sem (Nat × Nat))).run P w = .ok pl w := by
    intro l
    induction l with
    | nil => intro pl h; simp at h; subst h; rfl
    | cons x l ih =>
      intro pl h
      rw [List.mapM_cons] at h
      simp only [Option.bind_eq_bind, Option.bind_eq_some_iff, Option.map_eq_some_iff] at h
      obtain ⟨p, ⟨fi, hfi, rfl⟩, pl', hpl, h⟩ := h
      simp at h
      subst h
      rw [List.mapM_cons, Sem.run_bind, Sem.run_bind, (hT.ty _ _ hfi).sizeOf, Result.andThen_ok, Sem.run_pure, Result.andThen_ok, Sem.run_bind, ih _ hpl, Result.andThen_ok]
      rfl
  rw [Array.mapM_eq_mapM_toList, Sem.run_map, key _ _ h, Result.andThen_ok]

theorem parts_list {α : Type} (f : Operand → α) (ps : Array (Nat × Operand)) : (ps.map fun (x : Nat × Operand) => (x.1, f x.2)).toList = ps.toList.map fun p => (p.1, f p.2) := by simp

theorem op_build {o : Oper} {t : TypeId} {ps : Array (Nat × Operand)} (ho : o.op = .build t ps) {fr : Fr} {a : Act} (hT : TabOK P T) (hR : Rel X ρ σ w) (hF : FR X ρ σ w fr a) {r : AStep}
    (h : astep T o fr σ = some r) : Good X ρ σ w r ((execOp a.eval o).run P w) := by
  simp only [astep, ho, Option.bind_eq_some_iff] at h
  obtain ⟨i, hi, h⟩ := h
  obtain ⟨z, info, g1, g2, g3, g4, hz, hvs, _⟩ := zero_vrs (hT.ty _ _ hi) w (Mu X ρ σ) ρ σ
  have hu := (hT.ty _ _ hi).und
  split at h
  · rename_i fs hd
    simp only [Option.bind_eq_some_iff, Option.map_eq_some_iff] at h
    obtain ⟨pl, hpl, cs, hcs, rfl⟩ := h
    obtain ⟨rs, r1, r2⟩ := fill_sound hF.ev ps.toList i.zero z.cells hvs hcs
    refine Good.pure hR (v := .agg rs) ?_ (.agg _ _ r2.1 r2.2)
    rw [hd] at hu
    have hpl' := places_sound (P := P) hT hpl w
    simp only [execOp, ho, Instr.build, Sem.run_bind, hz, Result.andThen_ok, run_underlying hu, Sem.run_pure] at hpl' ⊢
    rw [hpl']
    simp only [Result.andThen_ok, parts_list]
    have : (fun (x : Nat) => pl.toArray[x]?) = fun (j : Nat) => pl[j]? := by funext j; simp
    rw [this, r1]; rfl
  · rename_i n e hd
    simp only [Option.bind_eq_some_iff, Option.map_eq_some_iff] at h
    obtain ⟨ei, hei, cs, hcs, rfl⟩ := h
    obtain ⟨rs, r1, r2⟩ := fill_sound hF.ev ps.toList i.zero z.cells hvs hcs
    refine Good.pure hR (v := .agg rs) ?_ (.agg _ _ r2.1 r2.2)
    rw [hd] at hu
    simp only [execOp, ho, Instr.build, Sem.run_bind, hz, Result.andThen_ok, run_underlying hu, Sem.run_pure, (hT.ty _ _ hei).sizeOf, parts_list]
    rw [r1]; rfl
  · cases h

theorem get_repl (z : List AV) (n : Nat) : ∀ j, j < n * z.length → (repl n z)[j]? = z[j % z.length]? := by
  induction n with
  | zero => intro j hj; simp at hj
  | succ n ih =>
    intro j hj
    rw [Nat.add_mul, Nat.one_mul] at hj
    simp only [repl, List.replicate_succ, List.flatten_cons] at ih ⊢
    rw [List.getElem?_append]
    split
    · rename_i h; rw [Nat.mod_eq_of_lt h]
    · rename_i h
      rw [ih (j - z.length) (by omega)]
      congr 1
      rw [Nat.mod_eq_sub_mod (by omega : j ≥ z.length)]

theorem len_repl (z : List AV) (n : Nat) : (repl n z).length = n * z.length := by simp [repl]

theorem repl_vrs {M : Nat → Prop} {zs : List AV} {z : Array Value} (h : VRs w M ρ σ zs z) (n : Nat) :
    VRs w M ρ σ (repl n zs) ((Array.range (n * z.size)).map (fun x => z[x % z.size]!)) := by
  refine ⟨by simp [len_repl, h.1], ?_⟩
  intro j c v hc hv
  have hj : j < n * zs.length := by have := (List.getElem?_eq_some_iff.1 hc).1; rwa [len_repl] at this
  rw [get_repl _ _ _ hj] at hc
  have hpos : 0 < zs.length := by
    rcases Nat.eq_zero_or_pos zs.length with h0 | h0
    · rw [h0] at hj; simp at hj
    · exact h0
  have hm : j % z.size < z.size := by rw [h.1]; exact Nat.mod_lt _ hpos
  have hj' : j < n * z.size := by rw [h.1]; exact hj
  simp [Array.getElem?_eq_getElem, hj'] at hv
  subst hv
  refine h.2 (j % zs.length) c _ hc ?_
  rw [← h.1, Array.getElem?_eq_getElem hm]
  simp [hm]

theorem VR.closed {M : Nat → Prop} {c : AV} {v : Value} (h : VR w M ρ σ c v) (hc : c.closed1 = true) : VC w M c v := by
  cases h with
  | undef v => exact .undef v
  | bool b => exact .bool b
  | int k n => exact .int k n
  | str s bs h => exact .str s bs h
  | snap0 a cap => exact .snap0 a cap
  | snap n cs a cap vs h1 h2 h3 h4 h5 h6 h7 => exact .snap n cs a cap vs h1 h2 h3 h4 h5 h6 h7
  | fptr cs a vs h1 h2 h3 h4 h5 => exact .fptr cs a vs h1 h2 h3 h4 h5
  | nil0 a => exact .nil0 a
  | nilptr => exact .nilptr
  | nilmap => exact .nilmap
  | nilfn => exact .nilfn
  | nilif => exact .nilif
  | clo f a b a' b' ha hb h1 h2 =>
    cases a <;> cases b <;> simp [AV.closed1] at hc
    exact .clo f [] [] a' b' ha hb (fun i c v hc => by simp at hc) (fun i c v hc => by simp at hc)
  | _ => simp [AV.closed1] at hc

/-- The world grows beside the objects. -/
theorem rel_grow {X : Nat → Prop} (hR : Rel X ρ σ w) {w' : World} (hos : w'.os = w.os) (htape : w'.tape = w.tape) (hout : w'.output = w.output ∧ w.drawn ≤ w'.drawn) (hsize : w.heap.size ≤ w'.heap.size)
    (hkeep : ∀ b, b < w.heap.size → w'.heap[b]? = w.heap[b]?) : Rel X ρ σ w' ∧ Tr ρ σ w ρ σ w' := by
  have t : Tr ρ σ w ρ σ w' := ⟨hos, htape, hout, hsize, fun b hb _ => hkeep b hb, fun _ _ h => h, fun id o h => ⟨o, h, Nat.le_refl _, fun _ h => ⟨h, rfl⟩, fun h => ⟨h, rfl⟩⟩⟩
  refine ⟨⟨fun id o ho => ?_, hR.inj, hR.amb, fun b hb => Nat.lt_of_lt_of_le (hR.lt b hb) hsize⟩, t⟩
  by_cases hlive : o.ob.live = true
  · exact OR.tr t (hkeep _ ((hR.obj id o ho).lt hlive)) (hR.obj id o ho)
  · obtain ⟨ver, ob⟩ := o
    cases ob with
    | dead => trivial
    | cells => simp [OB.live] at hlive
    | map => simp [OB.live] at hlive

theorem not_mu_new {X : Nat → Prop} (hR : Rel X ρ σ w) {b : Nat} (h : w.heap.size ≤ b) : ¬ Mu X ρ σ b := by
  rintro (hx | ⟨id, o, ho, hw, rfl⟩)
  · have := hR.lt b hx; omega
  · have := (hR.obj id o ho).lt (OB.live_own hw); omega

theorem heap_alloc (w : World) (x : Obj) : (w.alloc x).heap = w.heap.push x := rfl

theorem lit_sound {X : Nat → Prop} (hR : Rel X ρ σ w) (e : TypeId) (rs : Array Value) (cs : List AV) (n k : Nat) (hlen : rs.size = n * k) (hrs : rs.size = cs.length)
    (hvr : ∀ (j : Nat) c v, cs[j]? = some c → rs[j]? = some v → VR w (Mu X ρ σ) ρ σ c v) {lit : Bool} {r : AStep} (h : litA lit n k cs σ = some r) :
    Good X ρ σ w r (.ok (.value (.slice (some ⟨w.heap.size, 0, none⟩) n n)) (w.alloc (.cells rs e))) := by
  unfold litA at h
  cases lit with
  | false =>
    simp only [Bool.false_eq_true, if_false, Option.some.injEq] at h
    subst h
    have key := new_cells hR e rs cs (w' := w.alloc (.cells rs e)) rfl rfl rfl ⟨rfl, by first | exact Nat.le_refl _ | exact Nat.le_succ _⟩ (by rw [hrs]; exact Nat.le_refl _) hvr
    exact ⟨.slice (some ⟨w.heap.size, 0, none⟩) n n, _, _, rfl, key.1, key.2, vr_newref _ _ _ _ _ _ _ _ _ (Nat.le_refl _) (by simp [hlen])⟩
  | true =>
    simp only [if_true] at h
    split at h
    · rename_i hall
      cases h
      obtain ⟨g1, g2⟩ := rel_grow hR (w' := w.alloc (.cells rs e)) rfl rfl ⟨rfl, Nat.le_refl _⟩ (by rw [heap_alloc]; simp) (fun b hb => by rw [heap_alloc, Array.getElem?_push, if_neg (by omega)])
      refine ⟨_, _, ρ, rfl, g1, g2, ?_⟩
      split
      · rename_i h0
        subst h0
        exact .nil0 _
      · rename_i h0
        have hb : (w.alloc (.cells rs e)).heap[w.heap.size]? = some (.cells rs e) := by rw [heap_alloc, Array.getElem?_push, if_pos rfl]
        refine .snap n cs _ n (fun j => rs.getD j undef) rfl (by rw [heap_alloc]; simp) (not_mu_new hR (Nat.le_refl _)) (Nat.le_refl _) h0 (fun j hj => ?_) (fun j c hc => ?_)
        · rw [add_lit]
          have : j < rs.size := by omega
          unfold World.cell?
          simp only [hb]
          simp [this]
        · have hj : j < rs.size := by have := (List.getElem?_eq_some_iff.1 hc).1; omega
          have := hvr j c rs[j] hc (Array.getElem?_eq_getElem hj)
          have e1 : rs.getD j undef = rs[j] := by simp [hj]
          rw [e1]
          exact (this.tr g2).closed (List.all_eq_true.1 hall c (List.mem_of_getElem? hc))
    · cases h

theorem op_buildSlice {o : Oper} {t : TypeId} {n : Nat} {ps : Array (Nat × Operand)} (ho : o.op = .buildSlice t n ps) {fr : Fr} {a : Act} (hT : TabOK P T) (hR : Rel X ρ σ w) (hF : FR X ρ σ w fr a) {r : AStep}
    (h : astep T o fr σ = some r) : Good X ρ σ w r ((execOp a.eval o).run P w) := by
  simp only [astep, ho, Option.bind_eq_some_iff, elemTI] at h
  obtain ⟨i, hi, h⟩ := h
  split at hi
  · rename_i e sz b zz fl ht
    split at h
    · rename_i hc
      obtain ⟨c1, c2, c3⟩ := hc
      simp only [Option.bind_eq_some_iff] at h
      obtain ⟨cs, hcs, h⟩ := h
      obtain ⟨z, info, g1, g2, g3, g4, hz, hvs, _⟩ := zero_vrs (hT.ty _ _ hi) w (Mu X ρ σ) ρ σ
      have hzs : z.cells.size = i.size := by rw [hvs.1, c2]
      obtain ⟨rs, r1, r2⟩ := fill_sound hF.ev ps.toList (repl n i.zero) _ (repl_vrs hvs n) hcs
      have hlen : rs.size = n * i.size := by
        have hl : ∀ (ps : List (Nat × AV)) (cs r : List AV) (place), fillA place cs ps = some r → r.length = cs.length := by
          intro ps
          induction ps with
          | nil => intro cs r place h; simp [fillA] at h; rw [h]
          | cons p ps ih =>
            intro cs r place h
            simp only [fillA] at h
            split at h
            · split at h
              · rename_i hc; rw [ih _ _ _ h, len_splice (by omega)]
              · cases h
            · cases h
        rw [r2.1, hl _ _ _ _ hcs, len_repl, c2]
      have good := lit_sound hR e rs cs n i.size hlen r2.1 r2.2 h
      have run : (execOp a.eval o).run P w = .ok (.value (.slice (some ⟨w.heap.size, 0, none⟩) n n)) (w.alloc (.cells rs e)) := ?run
      · rw [run]; exact good
      simp only [execOp, ho, Instr.buildSlice, Sem.run_bind, run_underlying (hT.ty _ _ ht).und, Result.andThen_ok, (hT.ty _ _ hi).sizeOf, Sem.run_ite, parts_list, Sem.run_pure]
      rw [if_neg (by omega)]
      by_cases h0 : n * i.size = 0
      · simp only [if_pos h0, Result.andThen_ok]
        have e1 : ((Array.range (n * z.cells.size)).map (fun x => z.cells[x % z.cells.size]!)) = #[] := by rw [hzs, h0]; simp
        rw [e1] at r1
        have e2 : ((Array.range (n * i.size)).map (fun x => (#[] : Array Value)[x % (#[] : Array Value).size]!)) = #[] := by rw [h0]; simp
        rw [e2, r1]
        simp [newRow]
      · simp only [if_neg h0, hz, Result.andThen_ok, Sem.run_pure]
        rw [hzs] at r1
        rw [hzs, r1]
        simp [newRow]
    · cases h
  · cases hi

theorem op_makeSlice {o : Oper} {t : TypeId} {l c : Operand} (ho : o.op = .makeSlice t l c) {fr : Fr} {a : Act} (hT : TabOK P T) (hR : Rel X ρ σ w) (hF : FR X ρ σ w fr a) {r : AStep}
    (h : astep T o fr σ = some r) : Good X ρ σ w r ((execOp a.eval o).run P w) := by
  simp only [astep, ho, Option.bind_eq_some_iff, elemTI] at h
  obtain ⟨i, hi, h⟩ := h
  have hl := hF.ev l
  have hc := hF.ev c
  split at hi
  · rename_i e sz b zz fl ht
    split at h
    · rename_i k1 n k2 m e1 e2
      split at h
      · rename_i hcc
        obtain ⟨h0, hnm, hzl, hroom⟩ := hcc
        cases h
        rw [e1] at hl; rw [e2] at hc
        have e3 := hl.int_inv
        have e4 := hc.int_inv
        obtain ⟨k, rfl⟩ := Int.eq_ofNat_of_zero_le h0
        obtain ⟨q, rfl⟩ := Int.eq_ofNat_of_zero_le (Int.le_trans h0 hnm)
        have hkq : k ≤ q := by omega
        simp only [room47, Bool.and_eq_true, decide_eq_true_eq, Int.toNat_natCast] at hroom
        obtain ⟨z, info, g1, g2, g3, g4, hz, hvs, _⟩ := zero_vrs (hT.ty _ _ hi) w (Mu X ρ σ) ρ σ
        have hzs : z.cells.size = i.size := by rw [hvs.1, hzl]
        have hb : (info.bytes : Int) * (q : Int) ≤ 281474976710656 := by
          have : info.bytes * q ≤ 140737488355328 := by rw [g4, Nat.mul_comm]; exact hroom.2
          have h : ((info.bytes * q : Nat) : Int) ≤ 281474976710656 := by omega
          rwa [Int.natCast_mul] at h
        have hrun := run_make (P := P) w t e info z (hT.ty _ _ ht).und g1 g2 k1 k2 k q (by omega) (by omega) hb (by omega)
        simp only [Int.toNat_natCast, g3] at hrun
        have hr := repl_vrs hvs q
        have key := new_cells hR e (madeCells z.cells (q * i.size)) (repl k i.zero) (w' := w.alloc (.cells (madeCells z.cells (q * i.size)) e)) rfl rfl rfl ⟨rfl, by first | exact Nat.le_refl _ | exact Nat.le_succ _⟩
          (by rw [len_repl, size_madeCells, hzl]; exact Nat.mul_le_mul_right _ hkq) (fun j c v hj hv => by
            have hjk : j < k * i.zero.length := by have := (List.getElem?_eq_some_iff.1 hj).1; rwa [len_repl] at this
            have hjq : j < q * i.zero.length := Nat.lt_of_lt_of_le hjk (Nat.mul_le_mul_right _ hkq)
            refine hr.2 j c v ?_ ?_
            · rw [get_repl _ _ _ hjq, ← get_repl _ _ _ hjk]; exact hj
            · unfold madeCells at hv; rw [← hzs] at hv; exact hv)
        refine ⟨.slice (some ⟨w.heap.size, 0, none⟩) k q, _, _, ?_, key.1, key.2, ?_⟩
        · simp only [execOp, ho, e3, e4]
          rw [Sem.run_bind, hrun]; rfl
        · simp only [Int.toNat_natCast]
          exact vr_newref _ _ _ _ _ _ _ _ _ hkq (by simp [size_madeCells])
      · cases h
    · cases h
  · cases hi

end Go.Am
