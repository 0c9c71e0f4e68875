/-
  What the functions that the statement reaches compute, proved (contracts of functions and the lemmas for them), a part of the proof. No conditions beyond those that each theorem names.
-/
import Derived.Test.YtakligfpajogkaaGreatDoorPartI
import Derived.Defers
import Derived.Recover
set_option linter.unusedVariables false
set_option linter.unusedSimpArgs false

section
namespace Go.Px
open Go.RowKit

/-! ### Functions that defer a closure that recovers -/
/-- The closure, behind its recover: from the caller's heap, with what was recovered. -/
def CloseH (P : Program) (B : Base) (N t5 t2 : Nat) (c3 : Code) (caps : List D) (v : D) (st : St) (Q : St → Prop) : Prop :=
  ∀ E0, H P ⟨B.w, B.ok, B.giv, N, E0, []⟩ c3 ⟨(t2, v) :: (t5, v) :: enumD 0 caps, st.h, st.nx⟩ fun x st3 => (x = .ret ∨ x = .normal) ∧ st3.nx = st.nx ∧ Q ⟨st.σ, st3.h, st.nx⟩
/-- What the closure's function is. -/
structure IsClose (P : Program) (g : FuncId) (gn : Func) (o0 o1 : Oper) (t5 t2 : Nat) (c3 : Code) (k : Nat) : Prop where
  at_ : P.funcs[g]? = some gn
  body : gn.body = some (.seq (.region 0 #[o0, o1] false) c3)
  res : gn.results = #[]
  name : (gn.name == "runtime.NumGoroutine") = false
  op0 : o0.op = .call { callee := .builtin .recover, args := #[], argTypes := #[] }
  d0 : o0.dst = some t5
  g0 : o0.guard = none
  op1 : o1.op = .assign (.tmp t5)
  d1 : o1.dst = some t2
  g1 : o1.guard = none
  lt5 : t5 < gn.ntmps
  lt2 : t2 < gn.ntmps
  caps : k ≤ gn.ntmps

section
variable {P : Program} {τ : List (Nat × TI)}
theorem run_recover {a : Act} {w : World} {o : Oper} (h : o.op = .call { callee := .builtin .recover, args := #[], argTypes := #[] }) : (execOp a.eval o).run P w = .ok .recover w := by
  simp [execOp, h, resolve, invoke, builtin]
theorem close_call {B : Base} {st : St} {a : Act} {w : World} {ρ : Nat → RC} (s : SatR B st a w ρ) {g : FuncId} {gn : Func} {o0 o1 : Oper} {t5 t2 : Nat} {c3 : Code} {caps : List D} (hc : IsClose P g gn o0 o1 t5 t2 c3 caps.length)
    {vs : List Value} (hr : repVals (st.env B w ρ) caps vs) {v : D} {u u' : FrameMode} {Q : St → Prop} {pv : Value} (hv : rep (st.env B w ρ) v pv)
    (hu : ∀ c₀ cs, c₀.mode = u → (match recoverD (c₀ :: cs) with | some (x, cs') => x = pv ∧ cs' = { c₀ with mode := u' } :: cs | none => pv = .nilIface ∧ u' = u))
    (h : CloseH P B gn.ntmps t5 t2 c3 caps v st Q) :
    CallsD P g vs.toArray u w fun e x w' => e = .returned (.tuple #[]) ∧ x = u' ∧ ∃ st', Q st' ∧ Sat B st' a w' := by
  refine callsD_of_wpS hc.at_ hc.body fun c₀ cs hm => ?_
  refine wpS_seq (wpS_region ?_)
  have hl := repVals_length hr
  have hk := hc.caps
  let a0 : Act := { tmps := vs.toArray ++ Array.replicate (gn.ntmps - vs.toArray.size) undef, defers := [] }
  have hsz : a0.tmps.size = gn.ntmps := by
    show (vs.toArray ++ Array.replicate (gn.ntmps - vs.toArray.size) undef).size = _
    simp [hl]
    omega
  -- what stands behind region 0
  have key : ∀ cs', cs' = { c₀ with mode := u' } :: cs → Exit.thenS (c3.wpS P (bodyPostS P gn c₀ cs fun e x w' => e = .returned (.tuple #[]) ∧ x = u' ∧ ∃ st', Q st' ∧ Sat B st' a w'))
      (bodyPostS P gn c₀ cs fun e x w' => e = .returned (.tuple #[]) ∧ x = u' ∧ ∃ st', Q st' ∧ Sat B st' a w') .normal ((a0.put (some t5) pv).put (some t2) pv) cs' w := by
    rintro _ rfl
    refine wpS_of_wp ?_
    let B' : Base := ⟨B.w, B.ok, B.giv, gn.ntmps, st.env B w ρ, []⟩
    have s0 : SatR B' ⟨enumD 0 caps, st.h, st.nx⟩ a0 w ρ := by
      refine ⟨fun t d h => ?_, s.roots, s.inj, hsz, rfl, ⟨s.ext.os, s.ext.tape, s.ext.output, s.ext.size, s.ext.block⟩, s.fresh, Env.Le.refl _⟩
      obtain ⟨_, hd⟩ := get_enumD h
      obtain ⟨v, h1, h2⟩ := (repVals_iff.1 hr).2 _ _ hd
      refine ⟨v, ?_, h2⟩
      have hlt : t < vs.length := by
        have := (List.getElem?_eq_some_iff.1 h1).1
        simpa using this
      show (vs.toArray ++ _)[t]? = some v
      rw [Array.getElem?_append_left (by simpa using hlt)]
      simpa using h1
    have s1 := s0.put (t := t5) (d := v) (v := pv) hc.lt5 hv
    have s2 := s1.put (t := t2) (d := v) (v := pv) hc.lt2 hv
    refine wp_mono (h (st.env B w ρ) _ _ ⟨ρ, s2⟩) fun e a' w' hq => ?_
    have done : ∀ st3, (st3.nx = st.nx ∧ Q ⟨st.σ, st3.h, st.nx⟩) → Sat B' st3 a' w' → a'.defers = [] ∧ ∃ x, ({ c₀ with mode := u' } :: cs) = { c₀ with mode := x } :: cs ∧ ∃ v, (results gn a'.tmps).run P w' = .ok v w' ∧
        ((Ending.returned v) = .returned (.tuple #[]) ∧ x = u' ∧ ∃ st', Q st' ∧ Sat B st' a w') := by
      rintro st3 ⟨hnx, hQ⟩ ⟨ρ', s3⟩
      have henv : (St.env B' st3 w' ρ') = St.env B ⟨st.σ, st3.h, st.nx⟩ w' ρ' := by
        unfold St.env
        have e1 : st3.has = St.has ⟨st.σ, st3.h, st.nx⟩ := by
          funext q
          unfold St.has
          rw [hnx]
        rw [e1]
        rfl
      have hle : (st.env B w ρ).Le (St.env B ⟨st.σ, st3.h, st.nx⟩ w' ρ') := henv ▸ s3.le
      refine ⟨s3.defs, u', rfl, .tuple #[], ?_, rfl, rfl, ⟨st.σ, st3.h, st.nx⟩, hQ, ρ', ⟨fun t d h => ?_, fun r R h => ?_, s3.inj, s.size, s.defs, ⟨s3.ext.os, s3.ext.tape, s3.ext.output, s3.ext.size, s3.ext.block⟩, s3.fresh, s.le.trans hle⟩⟩
      · simp [results, hc.res]
      · obtain ⟨v, h1, h2⟩ := s.tmps t d h
        exact ⟨v, h1, rep_mono hle d v h2⟩
      · exact henv ▸ s3.roots r R h
    cases e with
    | normal => obtain ⟨st3, ⟨_, h1⟩, h2⟩ := hq; exact done st3 h1 h2
    | ret => obtain ⟨st3, ⟨_, h1⟩, h2⟩ := hq; exact done st3 h1 h2
    | exit id => obtain ⟨st3, ⟨h1, _⟩, _⟩ := hq; rcases h1 with h1 | h1 <;> cases h1
    | goto l => exact hq.elim
    | outgrown => exact hq.elim
    | panic chain =>
      obtain ⟨st3, d', v, ρ', _, ⟨h1, _⟩, _⟩ := hq
      rcases h1 with h1 | h1 <;> cases h1
  have hur := hu c₀ cs hm
  have hev : ∀ (x : Value), (a0.put (some t5) x).eval (.tmp t5) = x := fun x => by
    have h5 := hc.lt5
    simp only [Act.eval, Act.put]
    rw [Array.getD_eq_getD_getElem?, Array.getElem?_setIfInBounds_self_of_lt (by rw [hsz]; exact h5)]
    rfl
  show wpOpsS P #[o0, o1] _ (List.range 2) a0 (c₀ :: cs) w
  have hrange : List.range 2 = [0, 1] := rfl
  rw [hrange]
  have hw0 : Region.wanted o0 (yielded #[o0, o1] a0.tmps) = true := by simp [Region.wanted, hc.g0]
  have hw1 : ∀ a1 : Act, Region.wanted o1 (yielded #[o0, o1] a1.tmps) = true := fun a1 => by simp [Region.wanted, hc.g1]
  have hop1 : ∀ (x : Value), (execOp (a0.put (some t5) x).eval o1).run P w = .ok (.value x) w := fun x => by
    have := hev x
    simp [execOp, hc.op1, this]
  have g0 : (#[o0, o1] : Array Oper)[0]? = some o0 := rfl
  have g1 : (#[o0, o1] : Array Oper)[1]? = some o1 := rfl
  unfold wpOpsS
  simp only [g0, hw0, if_true, run_recover hc.op0]
  cases hrec : recoverD (c₀ :: cs) with
  | none =>
    rw [hrec] at hur
    obtain ⟨rfl, rfl⟩ := hur
    simp only
    rw [hc.d0]
    unfold wpOpsS
    simp only [g1, hw1, if_true, hop1]
    rw [Oper.upon_value]
    unfold wpOpsS
    rw [hc.d1]
    refine key _ ?_
    cases c₀; simp only at hm; subst hm; rfl
  | some x =>
    obtain ⟨x, cs'⟩ := x
    rw [hrec] at hur
    obtain ⟨rfl, rfl⟩ := hur
    simp only
    rw [hc.d0]
    unfold wpOpsS
    simp only [g1, hw1, if_true, hop1]
    rw [Oper.upon_value]
    unfold wpOpsS
    rw [hc.d1]
    exact key _ rfl

def defQ2 (P : Program) (τ : List (Nat × TI)) (w : World) (ok : Nat → Nat → Prop) (giv : Nat → Prop) (N t5 t2 : Nat) (c3 : Code) (rs : List ResultVar) (d : D) (caps : List D) : AX → St → Prop
  | .ret, st => CloseH P ⟨w, ok, giv, 0, penv w ok, []⟩ N t5 t2 c3 caps .nili st (RetOK τ rs d)
  | .normal, st => CloseH P ⟨w, ok, giv, 0, penv w ok, []⟩ N t5 t2 c3 caps .nili st (RetOK τ rs d)
  | .pan x, st => CloseH P ⟨w, ok, giv, 0, penv w ok, []⟩ N t5 t2 c3 caps x st (RetOK τ rs d)
  | .exit _, _ => False
def defQ1 (P : Program) (w : World) (ok : Nat → Nat → Prop) (giv : Nat → Prop) (N t g : Nat) (cs : List Operand) (c2 : Code) (Q2 : List D → AX → St → Prop) : AX → St → Prop
  | .normal, st => ∀ E0 dl, H P ⟨w, ok, giv, N, E0, dl⟩ c2 ⟨(t, .fn g (mapE st.σ cs)) :: st.σ, st.h, st.nx⟩ (Q2 (mapE st.σ cs))
  | _, _ => False
theorem Pure.bodyDefer (hv : Valid P τ) {f : FuncId} {fn : Func} {c1 c2 : Code} {id : Nat} {mk df : Oper} {g : FuncId} {cops : Array Operand} {t : Nat} {ds : List D} {d : D}
    (hf : P.funcs[f]? = some fn) (hb : fn.body = some (.seq c1 (.seq (.region id #[mk, df] false) c2))) (hname : (fn.name == "runtime.NumGoroutine") = false) (hn : Nat.ble ds.length fn.ntmps = true)
    (mkop : mk.op = .makeFunc (.func g) #[] cops) (mkd : mk.dst = some t) (mkg : mk.guard = none) (ht : t < fn.ntmps)
    (dfop : df.op = .defer { callee := .value (.tmp t), args := #[], argTypes := #[] }) (dfd : df.dst = none) (dfg : df.guard = none)
    {gn : Func} {o0 o1 : Oper} {t5 t2 : Nat} {c3 : Code} (hc : IsClose P g gn o0 o1 t5 t2 c3 cops.toList.length)
    (h : ∀ (w : World) (ok : Nat → Nat → Prop) (giv : Nat → Prop) (E0 : Env), (∀ b, ¬ giv b) → (∀ r, ¬ E0.dom r) →
      H P ⟨w, ok, giv, fn.ntmps, E0, []⟩ c1 ⟨enumD 0 ds, [], 0⟩ (defQ1 P w ok giv fn.ntmps t g cops.toList c2 (defQ2 P τ w ok giv gn.ntmps t5 t2 c3 fn.results.toList d))) : Pure P f ds (.ret d) := by
  refine ⟨⟨fn, hf, hname, by rw [hb]; rfl⟩, fun w ok vs hr => ?_⟩
  refine calls_of_wp_defers hf hb ?_
  have hn := Nat.le_of_ble_eq_true hn
  have hl := repVals_length hr
  let B : Base := ⟨w, ok, fun _ => False, fn.ntmps, penv w ok, []⟩
  have hle : (penv w ok).Le (St.env B ⟨enumD 0 ds, [], 0⟩ w fun _ => default) := ⟨fun b o v h1 h2 => ⟨h1, .inl h2, fun r R h => by simp [get] at h⟩, fun r hr => hr.elim, fun r hr => hr.elim⟩
  have s0 : SatR B ⟨enumD 0 ds, [], 0⟩ { tmps := vs.toArray ++ Array.replicate (fn.ntmps - vs.toArray.size) undef, defers := [] } w (fun _ => default) := by
    refine ⟨fun t d h => ?_, fun r R h => by simp [get] at h, fun r r' R R' b h => by simp [get] at h, ?_, rfl, ⟨rfl, rfl, rfl, Nat.le_refl _, fun _ _ _ => rfl⟩, fun r R b h => by simp [get] at h, hle⟩
    · obtain ⟨_, hd⟩ := get_enumD h
      obtain ⟨v, h1, h2⟩ := (repVals_iff.1 hr).2 _ _ hd
      refine ⟨v, ?_, rep_mono hle d v h2⟩
      have hlt : t < vs.length := by
        have := (List.getElem?_eq_some_iff.1 h1).1
        simpa using this
      rw [Array.getElem?_append_left (by simpa using hlt)]
      simpa using h1
    · simp [hl]
      show ds.length + (fn.ntmps - ds.length) = fn.ntmps
      omega
  refine wp_seq (wp_mono (h w ok (fun _ => False) (penv w ok) (fun _ h => h) (fun _ h => h) _ _ ⟨_, s0⟩) fun e a1 w1 hq => ?_)
  cases e with
  | ret => obtain ⟨_, h1, _⟩ := hq; exact h1.elim
  | exit id => obtain ⟨_, h1, _⟩ := hq; exact h1.elim
  | panic ch => obtain ⟨_, _, _, _, _, h1, _⟩ := hq; exact h1.elim
  | goto l => exact hq.elim
  | outgrown => exact hq.elim
  | normal =>
  obtain ⟨st1, hnext, ρ1, s1⟩ := hq
  let cvs : List Value := cops.toList.map a1.eval
  have hcr : repVals (st1.env B w1 ρ1) (mapE st1.σ cops.toList) cvs := mapE_rep s1 cops.toList
  let fv : Value := .func (.func g) #[] cvs.toArray
  have hfv : rep (st1.env B w1 ρ1) (.fn g (mapE st1.σ cops.toList)) fv := by simp only [rep]; exact ⟨cvs, rfl, hcr⟩
  have s2 := s1.put (t := t) ht hfv
  let dd : Deferred := ⟨.fn (.func g) cvs.toArray, #[]⟩
  refine wp_seq (wp_region_list (ops := #[mk, df]) ?_)
  show wpList P #[mk, df] _ [mk, df] a1 w1
  have hrun1 : (execOp a1.eval mk).run P w1 = .ok (.value fv) w1 := by
    simp only [execOp, mkop]
    show Result.ok _ _ = _
    simp only [Instr.makeFunc, Sem.run_map, Sem.run_pure, Sem.run_bind, Result.andThen_ok, fv, cvs]
    rw [← Array.toArray_toList (xs := cops.map a1.eval), Array.toList_map]
    simp
  have hev : (a1.put (some t) fv).eval (.tmp t) = fv := by
    have hs : a1.tmps.size = fn.ntmps := s1.size
    simp only [Act.eval, Act.put]
    rw [Array.getD_eq_getD_getElem?, Array.getElem?_setIfInBounds_self_of_lt (by rw [hs]; exact ht)]
    rfl
  have hrun2 : (execOp (a1.put (some t) fv).eval df).run P w1 = .ok (.defer dd) w1 := by
    simp [execOp, dfop, resolve, Deferred.ofValue, hev, fv, dd]
  unfold wpList
  rw [show Region.wanted mk (yielded #[mk, df] a1.tmps) = true by simp [Region.wanted, mkg], if_pos rfl]
  left
  unfold Oper.wp
  rw [hrun1, Oper.upon_value, mkd]
  unfold wpList
  rw [show Region.wanted df (yielded #[mk, df] (a1.put (some t) fv).tmps) = true by simp [Region.wanted, dfg], if_pos rfl]
  left
  unfold Oper.wp
  rw [hrun2, Oper.upon_defer, dfd]
  unfold wpList
  have hdef1 : a1.defers = [] := s1.defs
  let B2 : Base := ⟨w, ok, fun _ => False, fn.ntmps, st1.env B w1 ρ1, [dd]⟩
  let a2 : Act := { (a1.put (some t) fv) with defers := [dd] }
  have ha2 : ({ (a1.put (some t) fv) with defers := dd :: (a1.put (some t) fv).defers } : Act).put none undef = a2 := by
    show ({ (a1.put (some t) fv) with defers := dd :: a1.defers } : Act) = a2
    rw [hdef1]
  have s3 : SatR B2 ⟨(t, .fn g (mapE st1.σ cops.toList)) :: st1.σ, st1.h, st1.nx⟩ a2 w1 ρ1 :=
    ⟨s2.tmps, s2.roots, s2.inj, s2.size, rfl, ⟨s2.ext.os, s2.ext.tape, s2.ext.output, s2.ext.size, s2.ext.block⟩, s2.fresh, Env.Le.refl _⟩
  show Code.wp P c2 _ _ _
  rw [ha2]
  refine wp_mono (hnext (st1.env B w1 ρ1) [dd] a2 w1 ⟨ρ1, s3⟩) fun e a4 w4 hq => ?_
  -- the closure, behind whatever c2 came to
  have fin : ∀ (st4 : St) (ρ4 : Nat → RC) (x : D) (pv : Value) (u u' : FrameMode), u ≠ .run → settle u' = .returning → SatR B2 st4 a4 w4 ρ4 → rep (st4.env B2 w4 ρ4) x pv →
      (∀ c₀ cs, c₀.mode = u → (match recoverD (c₀ :: cs) with | some (x, cs') => x = pv ∧ cs' = { c₀ with mode := u' } :: cs | none => pv = .nilIface ∧ u' = u)) →
      CloseH P ⟨w, ok, fun _ => False, 0, penv w ok, []⟩ gn.ntmps t5 t2 c3 (mapE st1.σ cops.toList) x st4 (RetOK τ fn.results.toList d) →
      Leaves P fn a4.tmps (roPost w ok (.ret d)) a4.defers u w4 := by
    intro st4 ρ4 x pv u u' hu hset s4 hx hrec hclose
    have hd4 : a4.defers = [dd] := s4.defs
    rw [hd4]
    have hcaps : repVals (st4.env B2 w4 ρ4) (mapE st1.σ cops.toList) cvs := repVals_mono s4.le _ _ hcr
    have hcl : (mapE st1.σ cops.toList).length = cops.toList.length := by
      have := repVals_length hcr
      simpa [cvs] using this.symm
    have hfnok : (invoke (.fn (.func g) cvs.toArray) #[]).run P w4 = .ok (.enter g cvs.toArray) w4 := by
      have : (invoke (.fn (.func g) cvs.toArray) #[]) = callFunc g (#[] ++ cvs.toArray) := rfl
      rw [this, Array.empty_append]
      have h2 : (gn.name == "runtime.NumGoroutine") = false := hc.name
      have h3 : gn.body.isNone = false := by rw [hc.body]; rfl
      simp only [callFunc, Sem.run_bind, run_program, Result.andThen_ok, hc.at_, h2, h3, Bool.false_eq_true, if_false, Sem.run_pure]
    refine leaves_cons hu hfnok ?_
    refine CallsD.mono (close_call s4 (Q := RetOK τ fn.results.toList d) (hcl ▸ hc) hcaps hx hrec hclose) ?_
    rintro e x' w5 ⟨rfl, rfl, st5, hret, ρ5, s5⟩
    show Leaves P fn a4.tmps _ [] (settle x') w5
    rw [hset]
    obtain ⟨v, g1, g2⟩ := ret_sound hv s5 hret
    have he := s5.ext
    exact ⟨v, g1, ⟨he.os, he.tape, he.output, he.size, fun k hk => he.block k hk (fun h => h)⟩, v, rfl, g2⟩
  cases e with
  | normal =>
    obtain ⟨st4, h1, ρ4, s4⟩ := hq
    exact fin st4 ρ4 .nili .nilIface .returning .returning (by simp) rfl s4 (by simp only [rep]) (fun c₀ cs hm => by simp [recoverD, hm]) h1
  | ret =>
    obtain ⟨st4, h1, ρ4, s4⟩ := hq
    exact fin st4 ρ4 .nili .nilIface .returning .returning (by simp) rfl s4 (by simp only [rep]) (fun c₀ cs hm => by simp [recoverD, hm]) h1
  | exit id => obtain ⟨_, h1, _⟩ := hq; exact h1.elim
  | goto l => exact hq.elim
  | outgrown => exact hq.elim
  | panic chain =>
    obtain ⟨st4, x, pv, ρ4, rfl, h1, s4, hx⟩ := hq
    exact fin st4 ρ4 x pv (.panicking [{ v := pv, recovered := false }]) (.panicking [{ v := pv, recovered := true }]) (by simp) rfl s4 hx (fun c₀ cs hm => by simp [recoverD, hm]) h1
end
end Go.Px
end

