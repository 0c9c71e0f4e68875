/-
  What the functions that the statement reaches compute, proved (contracts of functions and the lemmas for them), a part of the proof. No conditions beyond those that each theorem names.
-/
import Derived.Test.YtakligfpajogkaaGreatDoorPartE
import Derived.Scope
set_option linter.unusedVariables false
set_option linter.unusedSimpArgs false

section
namespace Go.Px
open Go.RowKit

/-! ### Code without loops, at one go -/
inductive Fr where
  | sq (c : Code)
  | bl (id : Nat)
inductive Res where
  | nor (st : St)
  | ret (st : St)
  | ex (id : Nat) (st : St)
  | pan (st : St) (d : D)
  | lp (c : Code) (k : List Fr) (st : St)
def popN : List Fr → Option (Code × List Fr)
  | [] => none
  | .sq c :: k => some (c, k)
  | .bl _ :: k => popN k
def popX (id : Nat) : List Fr → Option (List Fr)
  | [] => none
  | .sq _ :: k => popX id k
  | .bl i :: k => match Nat.beq id i with | true => some k | false => popX id k
structure DrawB (ops : Array Oper) (effs : List Nat) (items : List (Nat × Nat × Nat)) : Prop where
  ok : drawOK ops effs items = true
def hsOf (hs : List (Nat × List (Nat × Hint))) (id : Nat) : List (Nat × Hint) := match get hs id with | some l => l | none => []
def condOf (cs : List (Nat × Bool)) (o : Operand) : Option Bool := match o with | .tmp t => get cs t | _ => none

section
variable (P : Program) (τ : List (Nat × TI)) (ic : IC) (N : Nat) (hs : List (Nat × List (Nat × Hint))) (cs : List (Nat × Bool)) (dr : List (Nat × (List Nat × List (Nat × Nat × Nat))))
def evC (nx ib : Nat) : Nat → Code → List Fr → List (Nat × D) → List (Nat × Root) → List Prop → Option (Res × List Prop)
  | 0, _, _, _, _, _ => none
  | f + 1, c, k, σ, h, acc => match c with
    | .region id ops draw => match draw with
      | false => match evL P τ ic N ops (hsOf hs id) nx ib ops.toList 0 σ h acc with
        | none => none
        | some (.pan st d, acc') => some (.pan st d, acc')
        | some (.go ⟨σ', h', _⟩, acc') => match popN k with
          | none => some (.nor ⟨σ', h', nx⟩, acc')
          | some (c', k') => evC nx ib f c' k' σ' h' acc'
      | true => match get dr id with
        | none => none
        | some (effs, items) => match evDraw P τ ic N ops (hsOf hs id) effs items σ h nx with
          | none => none
          | some (⟨σ', h', _⟩, ps) => match popN k with
            | none => some (.nor ⟨σ', h', nx⟩, DrawB ops effs items :: catP ps acc)
            | some (c', k') => evC nx ib f c' k' σ' h' (DrawB ops effs items :: catP ps acc)
    | .seq x y => evC nx ib f x (.sq y :: k) σ h acc
    | .cond o x y => match evo σ o with
      | .b t => match condOf cs o with
        | some true => evC nx ib f x k σ h ((t = true) :: acc)
        | some false => evC nx ib f y k σ h ((t = false) :: acc)
        | none => match t with
          | true => evC nx ib f x k σ h acc
          | false => evC nx ib f y k σ h acc
      | _ => none
    | .skip => match popN k with
      | none => some (.nor ⟨σ, h, nx⟩, acc)
      | some (c', k') => evC nx ib f c' k' σ h acc
    | .label _ => match popN k with
      | none => some (.nor ⟨σ, h, nx⟩, acc)
      | some (c', k') => evC nx ib f c' k' σ h acc
    | .exit id => match popX id k with
      | none => some (.ex id ⟨σ, h, nx⟩, acc)
      | some k => match popN k with
        | none => some (.nor ⟨σ, h, nx⟩, acc)
        | some (c', k') => evC nx ib f c' k' σ h acc
    | .ret => some (.ret ⟨σ, h, nx⟩, acc)
    | .block id c => evC nx ib f c (.bl id :: k) σ h acc
    | .loop c => some (.lp c k ⟨σ, h, nx⟩, acc)
    | .scope c => evC nx ib f c k σ h acc
    | _ => none
end
theorem H.scope {P : Program} {B : Base} {c : Code} {st : St} {Q : AX → St → Prop} (h : H P B c st Q) : H P B (.scope c) st Q := fun a w s => wp_scope_straight (wp_mono (h a w s) fun e a' w' hq => by
  cases e <;> first | exact hq | exact hq.elim)
def frQ (P : Program) (B : Base) : List Fr → (AX → St → Prop) → AX → St → Prop
  | [], Q => Q
  | .sq y :: k, Q => seqQ P B y (frQ P B k Q)
  | .bl id :: k, Q => blockQ id (frQ P B k Q)
def resQ (P : Program) (B : Base) (Q : AX → St → Prop) : Res → Prop
  | .nor st => Q .normal st
  | .ret st => Q .ret st
  | .ex id st => Q (.exit id) st
  | .pan st d => Q (.pan d) st
  | .lp c k st => H P B (.loop c) st (frQ P B k Q)

section
variable {P : Program} {τ : List (Nat × TI)} {ic : IC} {hs : List (Nat × List (Nat × Hint))} {cs : List (Nat × Bool)} {dr : List (Nat × (List Nat × List (Nat × Nat × Nat)))}
variable {B : Base} {Q : AX → St → Prop}

theorem frQ_ret {st : St} : ∀ {k : List Fr}, frQ P B k Q .ret st ↔ Q .ret st
  | [] => Iff.rfl
  | .sq y :: k => frQ_ret (k := k)
  | .bl id :: k => frQ_ret (k := k)
theorem frQ_pan {st : St} {d : D} : ∀ {k : List Fr}, frQ P B k Q (.pan d) st ↔ Q (.pan d) st
  | [] => Iff.rfl
  | .sq y :: k => frQ_pan (k := k)
  | .bl id :: k => frQ_pan (k := k)
theorem frQ_popN {st : St} : ∀ {k : List Fr}, (match popN k with | none => Q .normal st | some (c, k') => H P B c st (frQ P B k' Q)) → frQ P B k Q .normal st
  | [], h => h
  | .sq y :: k, h => h
  | .bl id :: k, h => frQ_popN (k := k) h
theorem frQ_popX {st : St} {id : Nat} : ∀ {k : List Fr}, (match popX id k with | none => Q (.exit id) st | some k' => frQ P B k' Q .normal st) → frQ P B k Q (.exit id) st
  | [], h => h
  | .sq y :: k, h => frQ_popX (k := k) h
  | .bl i :: k, h => by
    simp only [popX] at h
    simp only [frQ, blockQ]
    cases hb : Nat.beq id i with
    | true => rw [hb] at h; exact h
    | false => rw [hb] at h; exact frQ_popX (k := k) h

theorem evL_nx {N : Nat} {ops : Array Oper} {hs : List (Nat × Hint)} {nx ib : Nat} : ∀ {l : List Oper} {k : Nat} {σ : List (Nat × D)} {h : List (Nat × Root)} {acc : List Prop} {st : St} {ps : List Prop},
    evL P τ ic N ops hs nx ib l k σ h acc = some (.go st, ps) → st.nx = nx
  | [], k, σ, h, acc, st, ps, e => by
    simp only [evL, Option.some.injEq, Prod.mk.injEq, Out.go.injEq] at e
    rw [← e.1]
  | o :: rest, k, σ, h, acc, st, ps, e => by
    simp only [evL, withD_eq, withH_eq] at e
    split at e
    · cases e
    · split at e
      · cases e
      · exact evL_nx e
    · split at e
      · split at e
        · cases e
        · exact evL_nx e
      · split at e
        · split at e
          · cases e
          · split at e
            · exact evL_nx e
            · exact evL_nx e
        · split at e
          · simp only [Option.some.injEq, Prod.mk.injEq, reduceCtorEq, false_and] at e
          · cases e
theorem evDraw_nx {N : Nat} {ops : Array Oper} {hs : List (Nat × Hint)} {effs : List Nat} {items : List (Nat × Nat × Nat)} {σ : List (Nat × D)} {h : List (Nat × Root)} {nx : Nat} {st : St} {ps : List Prop}
    (e : evDraw P τ ic N ops hs effs items σ h nx = some (st, ps)) : st.nx = nx := by
  unfold evDraw at e
  split at e
  · cases e
  · split at e
    · cases e
    · split at e
      · cases e
      · simp only [Option.some.injEq, Prod.mk.injEq] at e
        rw [← e.1]

theorem evC_acc {N : Nat} {nx ib : Nat} : ∀ {f : Nat} {c : Code} {k : List Fr} {σ : List (Nat × D)} {h : List (Nat × Root)} {acc : List Prop} {r : Res} {ps : List Prop},
    evC P τ ic N hs cs dr nx ib f c k σ h acc = some (r, ps) → AllP ps → AllP acc := by
  intro f
  induction f with
  | zero => intro c k σ h acc r ps e; simp [evC] at e
  | succ f ih =>
    intro c k σ h acc r ps e hp
    have fin1 : ∀ {r' : Res} {acc' : List Prop}, some (r', acc') = some (r, ps) → AllP acc' := fun e => by
      simp only [Option.some.injEq, Prod.mk.injEq] at e
      rw [e.2]; exact hp
    simp only [evC] at e
    split at e
    · split at e
      · split at e
        · cases e
        · rename_i he; exact evL_acc he (fin1 e)
        · rename_i he
          refine evL_acc he ?_
          split at e
          · exact fin1 e
          · exact ih e hp
      · split at e
        · cases e
        · split at e
          · cases e
          · split at e
            · exact (catP_all.1 (AllP_cons.1 (fin1 e)).2).2
            · exact (catP_all.1 (AllP_cons.1 (ih e hp)).2).2
    · exact ih e hp
    · split at e
      · split at e
        · exact (AllP_cons.1 (ih e hp)).2
        · exact (AllP_cons.1 (ih e hp)).2
        · split at e
          · exact ih e hp
          · exact ih e hp
      · cases e
    · split at e
      · exact fin1 e
      · exact ih e hp
    · split at e
      · exact fin1 e
      · exact ih e hp
    · split at e
      · exact fin1 e
      · split at e
        · exact fin1 e
        · exact ih e hp
    · exact fin1 e
    · exact ih e hp
    · exact fin1 e
    · exact ih e hp
    · cases e

theorem evC_sound (hv : Valid P τ) (hm : P.follows .mixedOrders = true) (hic : ICok P ic) {nx ib : Nat} (hib : nx ≤ ib) : ∀ {f : Nat} {c : Code} {k : List Fr} {σ : List (Nat × D)} {h : List (Nat × Root)} {acc : List Prop} {r : Res} {ps : List Prop},
    evC P τ ic B.N hs cs dr nx ib f c k σ h acc = some (r, ps) → AllP ps → resQ P B Q r → H P B c ⟨σ, h, nx⟩ (frQ P B k Q) := by
  intro f
  induction f with
  | zero => intro c k σ h acc r ps e; simp [evC] at e
  | succ f ih =>
    intro c k σ h acc r ps e hp hq
    have fin1 : ∀ {st : St} {acc' : List Prop}, some (Res.nor st, acc') = some (r, ps) → Q .normal st ∧ AllP acc' := fun e => by
      simp only [Option.some.injEq, Prod.mk.injEq] at e
      obtain ⟨rfl, rfl⟩ := e
      exact ⟨hq, hp⟩
    have nxt : ∀ {σ' : List (Nat × D)} {h' : List (Nat × Root)} {acc' : List Prop} {k : List Fr},
        (match popN k with | none => some (Res.nor ⟨σ', h', nx⟩, acc') | some (c', k') => evC P τ ic B.N hs cs dr nx ib f c' k' σ' h' acc') = some (r, ps) → AllP acc' ∧ frQ P B k Q .normal ⟨σ', h', nx⟩ := by
      intro σ' h' acc' k e
      have hl : ∀ {o : Option (Code × List Fr)}, popN k = o → (match o with | none => some (Res.nor ⟨σ', h', nx⟩, acc') | some (c', k') => evC P τ ic B.N hs cs dr nx ib f c' k' σ' h' acc') = some (r, ps) →
          AllP acc' ∧ frQ P B k Q .normal ⟨σ', h', nx⟩ := by
        intro o ho e
        cases o with
        | none => exact ⟨(fin1 e).2, frQ_popN (by rw [ho]; exact (fin1 e).1)⟩
        | some x =>
          obtain ⟨c', k'⟩ := x
          exact ⟨evC_acc e hp, frQ_popN (by rw [ho]; exact ih e hp hq)⟩
      exact hl rfl e
    simp only [evC] at e
    split at e
    · split at e
      · split at e
        · cases e
        · rename_i he
          simp only [Option.some.injEq, Prod.mk.injEq] at e
          obtain ⟨rfl, rfl⟩ := e
          exact fun a w s => wp_region_list (evL_sound hv hic hib he hp (frQ_pan.2 hq) a w s)
        · rename_i he
          obtain ⟨h1, h2⟩ := nxt e
          have hn := evL_nx he
          simp only at hn
          subst hn
          exact fun a w s => wp_region_list (evL_sound (Q := frQ P B k Q) hv hic hib he h1 h2 a w s)
      · split at e
        · cases e
        · split at e
          · cases e
          · rename_i he
            obtain ⟨h1, h2⟩ := nxt e
            rw [AllP_cons, catP_all] at h1
            have hn := evDraw_nx he
            simp only at hn
            subst hn
            exact H.draw (st := ⟨σ, h, _⟩) hv hic hm _ _ _ h1.1.ok he h1.2.1 h2
    · exact H.seq (ih e hp hq)
    · split at e
      · rename_i t ht
        split at e
        · have := (AllP_cons.1 (evC_acc e hp)).1
          subst this
          exact H.cond ht (fun _ => ih e hp hq) (fun h => by cases h)
        · have := (AllP_cons.1 (evC_acc e hp)).1
          subst this
          exact H.cond ht (fun h => by cases h) (fun _ => ih e hp hq)
        · split at e
          · exact H.cond ht (fun _ => ih e hp hq) (fun h => by cases h)
          · exact H.cond ht (fun h => by cases h) (fun _ => ih e hp hq)
      · cases e
    · exact H.skip (nxt e).2
    · exact H.label (nxt e).2
    · split at e
      · rename_i hx
        simp only [Option.some.injEq, Prod.mk.injEq] at e
        obtain ⟨rfl, rfl⟩ := e
        exact H.exit (frQ_popX (by rw [hx]; exact hq))
      · rename_i hx
        exact H.exit (frQ_popX (by rw [hx]; exact (nxt e).2))
    · simp only [Option.some.injEq, Prod.mk.injEq] at e
      obtain ⟨rfl, rfl⟩ := e
      exact H.ret (frQ_ret.2 hq)
    · exact H.block (ih e hp hq)
    · simp only [Option.some.injEq, Prod.mk.injEq] at e
      obtain ⟨rfl, rfl⟩ := e
      exact hq
    · exact H.scope (ih e hp hq)
    · cases e
/-! ### Functions walked at their calls -/
structure IsFn (P : Program) (f : FuncId) (fn : Func) : Prop where
  at_ : P.funcs[f]? = some fn
  name : (fn.name == "runtime.NumGoroutine") = false
def evI (P : Program) (τ : List (Nat × TI)) : Nat → IC
  | 0 => fun _ _ _ _ _ _ => none
  | n + 1 => fun f hint ds h nx ib => match hint with
    | .mut d hl g gn => evMut P f ds h nx d hl g gn
    | .inl fn fu hs cs dr => match fn.body with
      | none => none
      | some c => match Nat.ble ds.length fn.ntmps with
        | false => none
        | true => match evC P τ (evI P τ n) fn.ntmps hs cs dr nx ib fu c [] (enumD 0 ds) h [] with
          | some (.ret st, ps) => match evRVs τ st fn.results.toList with
            | none => none
            | some (ds', qs) => some (tupD ds', st.h, IsFn P f fn :: catP qs ps)
          | some (.nor st, ps) => match evRVs τ st fn.results.toList with
            | none => none
            | some (ds', qs) => some (tupD ds', st.h, IsFn P f fn :: catP qs ps)
          | _ => none
    | _ => none
theorem evC_nx {N : Nat} {nx ib : Nat} : ∀ {f : Nat} {c : Code} {k : List Fr} {σ : List (Nat × D)} {h : List (Nat × Root)} {acc : List Prop} {r : Res} {ps : List Prop},
    evC P τ ic N hs cs dr nx ib f c k σ h acc = some (r, ps) → ∀ st, (r = .ret st ∨ r = .nor st) → st.nx = nx := by
  intro f
  induction f with
  | zero => intro c k σ h acc r ps e; simp [evC] at e
  | succ f ih =>
    intro c k σ h acc r ps e st hr
    have fin1 : ∀ {σ' : List (Nat × D)} {h' : List (Nat × Root)} {acc' : List Prop}, some (Res.nor ⟨σ', h', nx⟩, acc') = some (r, ps) → st.nx = nx := fun e => by
      simp only [Option.some.injEq, Prod.mk.injEq] at e
      obtain ⟨rfl, rfl⟩ := e
      rcases hr with hr | hr
      · cases hr
      · injection hr with hr; rw [← hr]
    have no : ∀ {x : Res} {acc' : List Prop}, some (x, acc') = some (r, ps) → (∀ s, x ≠ .ret s) → (∀ s, x ≠ .nor s) → st.nx = nx := fun e h1 h2 => by
      simp only [Option.some.injEq, Prod.mk.injEq] at e
      obtain ⟨rfl, rfl⟩ := e
      rcases hr with hr | hr
      · exact absurd hr (h1 _)
      · exact absurd hr (h2 _)
    simp only [evC] at e
    split at e
    · split at e
      · split at e
        · cases e
        · exact no e (fun _ h => by cases h) (fun _ h => by cases h)
        · split at e
          · exact fin1 e
          · exact ih e st hr
      · split at e
        · cases e
        · split at e
          · cases e
          · split at e
            · exact fin1 e
            · exact ih e st hr
    · exact ih e st hr
    · split at e
      · split at e
        · exact ih e st hr
        · exact ih e st hr
        · split at e
          · exact ih e st hr
          · exact ih e st hr
      · cases e
    · split at e
      · exact fin1 e
      · exact ih e st hr
    · split at e
      · exact fin1 e
      · exact ih e st hr
    · split at e
      · exact no e (fun _ h => by cases h) (fun _ h => by cases h)
      · split at e
        · exact fin1 e
        · exact ih e st hr
    · simp only [Option.some.injEq, Prod.mk.injEq] at e
      obtain ⟨rfl, rfl⟩ := e
      rcases hr with hr | hr
      · injection hr with hr; rw [← hr]
      · cases hr
    · exact ih e st hr
    · exact no e (fun _ h => by cases h) (fun _ h => by cases h)
    · exact ih e st hr
    · cases e

theorem results_sound {B : Base} {st : St} {a : Act} {w : World} {ρ : Nat → RC} (hv : Valid P τ) (s : SatR B st a w ρ) {fn : Func} {ds : List D} {qs : List Prop} (hds : evRVs τ st fn.results.toList = some (ds, qs)) (hq : AllP qs) :
    ∃ v, (results fn a.tmps).run P w = .ok v w ∧ rep (st.env B w ρ) (tupD ds) v := by
  obtain ⟨vs, q1, q2⟩ := evRVs_sound hv s hds hq
  have hm : (fn.results.mapM fun | .tmp t => pure (a.tmps.getD t undef) | .cell x t => do loadVar t (← asAddr (a.tmps.getD x undef)) : Sem (Array Value)).run P w = .ok vs.toArray w := by
    rw [Array.mapM_eq_mapM_toList, Sem.run_map]
    have : (fn.results.toList.mapM fun | .tmp t => pure (a.tmps.getD t undef) | .cell x t => do loadVar t (← asAddr (a.tmps.getD x undef)) : Sem (List Value)).run P w = .ok vs w := q1
    rw [this]
    rfl
  have e : (results fn a.tmps).run P w = (Result.ok vs.toArray w).andThen (fun (vs : Array Value) w' => Sem.run P (pure (if h : vs.size = 1 then vs[0] else .tuple vs)) w') := by
    unfold results
    rw [Sem.run_bind]
    exact congrArg (fun r => Result.andThen r _) hm
  rw [e]
  simp only [Result.andThen_ok, Sem.run_pure]
  refine ⟨_, rfl, ?_⟩
  have hl := repVals_length q2
  match ds, vs, q2, hl with
  | [], [], h2, _ =>
    rw [dif_neg (by simp)]
    simp only [tupD, rep]
    exact ⟨_, rfl, h2⟩
  | [d1], [v1], h2, _ =>
    simp only [repVals] at h2
    obtain ⟨_, _, e, h3, h4⟩ := h2
    cases e
    simpa [tupD] using h3
  | d1 :: d2 :: ds, v1 :: v2 :: vs, h2, _ =>
    rw [dif_neg (by simp)]
    simp only [tupD, rep]
    exact ⟨_, rfl, h2⟩

theorem evI_ok (hv : Valid P τ) (hm : P.follows .mixedOrders = true) : ∀ n, ICok P (evI P τ n)
  | 0 => fun _ _ _ _ _ _ _ _ _ _ _ _ _ _ _ h => by cases h
  | n + 1 => by
    intro B st a w ρ s ib hid f hint ds d h' ps vs h hp hargs
    simp only [evI] at h
    split at h
    case h_3 => cases h
    case h_1 => exact evMut_sound s h hp hargs
    rename_i fn fu hs cs dr
    split at h
    · cases h
    rename_i c hb
    split at h
    · cases h
    rename_i hn
    have hn := Nat.le_of_ble_eq_true hn
    -- both ways of ending
    have main : ∀ (r : Res) (st2 : St) (ps2 : List Prop), (r = .ret st2 ∨ r = .nor st2) → evC P τ (evI P τ n) fn.ntmps hs cs dr st.nx ib fu c [] (enumD 0 ds) st.h [] = some (r, ps2) →
        (match evRVs τ st2 fn.results.toList with | none => none | some (ds', qs) => some (tupD ds', st2.h, IsFn P f fn :: catP qs ps2)) = some (d, h', ps) →
        FnOK P f ∧ Calls P f vs.toArray w fun e w' => ∃ v ρ', e = .returned v ∧ SatR B ⟨st.σ, h', st.nx⟩ a w' ρ' ∧ rep (St.env B ⟨st.σ, h', st.nx⟩ w' ρ') d v := by
      intro r st2 ps2 hr hev h
      split at h
      · cases h
      rename_i ds' qs hds
      simp only [Option.some.injEq, Prod.mk.injEq] at h
      obtain ⟨rfl, rfl, rfl⟩ := h
      rw [AllP_cons, catP_all] at hp
      obtain ⟨hfn, hq, hps⟩ := hp
      have hf := hfn.at_
      have hnx : st2.nx = st.nx := evC_nx hev st2 hr
      refine ⟨⟨fn, hf, hfn.name, by rw [hb]; rfl⟩, calls_of_wp hf hb ?_⟩
      have hl := repVals_length hargs
      let B' : Base := ⟨B.w, B.ok, B.giv, fn.ntmps, st.env B w ρ, []⟩
      have s0 : SatR B' ⟨enumD 0 ds, st.h, st.nx⟩ { tmps := vs.toArray ++ Array.replicate (fn.ntmps - vs.toArray.size) undef, defers := [] } w ρ := by
        refine ⟨fun t d h => ?_, s.roots, s.inj, ?_, rfl, ⟨s.ext.os, s.ext.tape, s.ext.output, s.ext.size, s.ext.block⟩, s.fresh, Env.Le.refl _⟩
        · obtain ⟨_, hd⟩ := get_enumD h
          obtain ⟨v, h1, h2⟩ := (repVals_iff.1 hargs).2 _ _ hd
          refine ⟨v, ?_, h2⟩
          have hlt : t < vs.length := by
            have := (List.getElem?_eq_some_iff.1 h1).1
            simpa using this
          show (vs.toArray ++ _)[t]? = some v
          rw [Array.getElem?_append_left (by simpa using hlt)]
          simpa using h1
        · simp [hl]
          show ds.length + (fn.ntmps - ds.length) = fn.ntmps
          omega
      have hH : H P B' c ⟨enumD 0 ds, st.h, st.nx⟩ (frQ P B' [] fun x st' => (x = .ret ∨ x = .normal) ∧ st' = st2) :=
        evC_sound (B := B') (Q := fun x st' => (x = .ret ∨ x = .normal) ∧ st' = st2) hv hm (evI_ok hv hm n) hid hev hps (by
          rcases hr with rfl | rfl
          · exact ⟨.inl rfl, rfl⟩
          · exact ⟨.inr rfl, rfl⟩)
      refine wp_mono (hH _ _ ⟨_, s0⟩) fun e a' w' hq2 => ?_
      have done : ∀ st', st' = st2 → Sat B' st' a' w' → a'.defers = [] ∧ ∃ v, (results fn a'.tmps).run P w' = .ok v w' ∧
          ∃ u ρ', (Ending.returned v) = .returned u ∧ SatR B ⟨st.σ, st2.h, st.nx⟩ a w' ρ' ∧ rep (St.env B ⟨st.σ, st2.h, st.nx⟩ w' ρ') (tupD ds') u := by
        rintro st' rfl ⟨ρ', s'⟩
        obtain ⟨v, g1, g2⟩ := results_sound hv s' hds hq
        have henv : (St.env B' st' w' ρ') = St.env B ⟨st.σ, st'.h, st.nx⟩ w' ρ' := by
          unfold St.env
          have e1 : st'.has = St.has ⟨st.σ, st'.h, st.nx⟩ := by
            funext q
            unfold St.has
            rw [hnx]
          rw [e1]
          rfl
        have hle : (st.env B w ρ).Le (St.env B ⟨st.σ, st'.h, st.nx⟩ w' ρ') := henv ▸ s'.le
        refine ⟨s'.defs, v, g1, v, ρ', rfl, ⟨fun t d h => ?_, fun r R h => ?_, s'.inj, s.size, s.defs, ⟨s'.ext.os, s'.ext.tape, s'.ext.output, s'.ext.size, s'.ext.block⟩, s'.fresh, s.le.trans hle⟩, henv ▸ g2⟩
        · obtain ⟨v, h1, h2⟩ := s.tmps t d h
          exact ⟨v, h1, rep_mono hle d v h2⟩
        · exact henv ▸ s'.roots r R h
      cases e with
      | normal =>
        obtain ⟨st', ⟨_, h1⟩, h2⟩ := hq2
        exact done st' h1 h2
      | ret =>
        obtain ⟨st', ⟨_, h1⟩, h2⟩ := hq2
        exact done st' h1 h2
      | exit id => obtain ⟨st', ⟨h1, _⟩, _⟩ := hq2; rcases h1 with h1 | h1 <;> cases h1
      | goto l => exact hq2.elim
      | outgrown => exact hq2.elim
      | panic chain =>
        obtain ⟨st', d', v, ρ', _, ⟨h1, _⟩, _⟩ := hq2
        rcases h1 with h1 | h1 <;> cases h1
    split at h
    · rename_i st2 ps2 hev
      exact main _ st2 ps2 (.inl rfl) hev h
    · rename_i st2 ps2 hev
      exact main _ st2 ps2 (.inr rfl) hev h
    · cases h
/-- Run the code as far as it goes. -/
theorem H.run {P : Program} {τ : List (Nat × TI)} {dl : List Deferred} {w : World} {ok : Nat → Nat → Prop} {giv : Nat → Prop} {N : Nat} {E0 : Env} {σ : List (Nat × D)} {h : List (Nat × Root)} {nx : Nat} {Q : AX → St → Prop} {c : Code} (hv : Valid P τ) (hm : P.follows .mixedOrders = true) {ic : IC} (hic : ICok P ic) (f : Nat)
    (hs : List (Nat × List (Nat × Hint))) (cs : List (Nat × Bool)) (dr : List (Nat × (List Nat × List (Nat × Nat × Nat)))) {r : Res} {ps : List Prop}
    (e : evC P τ ic N hs cs dr nx nx f c [] σ h [] = some (r, ps)) (hp : AllP ps) (hq : resQ P ⟨w, ok, giv, N, E0, dl⟩ Q r) : H P ⟨w, ok, giv, N, E0, dl⟩ c ⟨σ, h, nx⟩ Q :=
  evC_sound (B := ⟨w, ok, giv, N, E0, dl⟩) hv hm hic (Nat.le_refl _) (k := []) e hp hq
end
end Go.Px
end

section
namespace Go.Px
def dr2 : List (Nat × (List Nat × List (Nat × Nat × Nat))) := []
def dr3 : List (Nat × (List Nat × List (Nat × Nat × Nat))) := [(6, ([3, 5, 9], [(0, 0, 0), (1, 0, 0), (2, 0, 0), (3, 0, 8), (4, 8, 8), (5, 8, 40), (6, 40, 40), (7, 40, 40), (8, 40, 40), (9, 40, 552), (10, 552, 552), (4, 0, 0), (6, 0, 0), (7, 0, 0), (8, 0, 0), (6, 8, 8), (7, 8, 8), (8, 8, 8)]))]
def dr4 : List (Nat × (List Nat × List (Nat × Nat × Nat))) := [(3, ([10, 11], [(0, 0, 0), (1, 0, 0), (2, 0, 0), (3, 0, 0), (4, 0, 0), (5, 0, 0), (6, 0, 0), (7, 0, 0), (8, 0, 0), (9, 0, 0), (10, 0, 1024), (11, 1024, 3072), (12, 3072, 3072), (0, 1024, 1024), (1, 1024, 1024), (2, 1024, 1024), (3, 1024, 1024), (4, 1024, 1024), (5, 1024, 1024), (6, 1024, 1024), (7, 1024, 1024), (8, 1024, 1024), (9, 1024, 1024), (9, 3072, 3072)])),
  (5, ([], [(0, 0, 0), (1, 0, 0), (2, 0, 0), (3, 0, 0), (4, 0, 0), (5, 0, 0), (6, 0, 0), (7, 0, 0), (8, 0, 0), (9, 0, 0), (10, 0, 0), (11, 0, 0), (12, 0, 0), (13, 0, 0), (14, 0, 0), (15, 0, 0), (16, 0, 0), (17, 0, 0), (18, 0, 0), (19, 0, 0), (20, 0, 0), (21, 0, 0), (22, 0, 0), (23, 0, 0), (24, 0, 0)]))]
def dr5 : List (Nat × (List Nat × List (Nat × Nat × Nat))) := []
def dr6 : List (Nat × (List Nat × List (Nat × Nat × Nat))) := [(4, ([6, 7], [(0, 0, 0), (1, 0, 0), (2, 0, 0), (3, 0, 0), (4, 0, 0), (5, 0, 0), (6, 0, 64), (7, 64, 192), (0, 64, 64), (1, 64, 64), (2, 64, 64), (3, 64, 64), (4, 64, 64), (5, 64, 64)]))]
def dr7 : List (Nat × (List Nat × List (Nat × Nat × Nat))) := [(17, ([], [(0, 0, 0), (1, 0, 0), (2, 0, 0), (3, 0, 0), (4, 0, 0), (5, 0, 0), (6, 0, 0), (7, 0, 0), (8, 0, 0), (9, 0, 0), (10, 0, 0), (11, 0, 0), (12, 0, 0), (13, 0, 0), (14, 0, 0), (15, 0, 0), (16, 0, 0), (17, 0, 0), (18, 0, 0), (19, 0, 0), (20, 0, 0)]))]
def dr8 : List (Nat × (List Nat × List (Nat × Nat × Nat))) := []
def dr9 : List (Nat × (List Nat × List (Nat × Nat × Nat))) := [(12, ([9, 10], [(0, 0, 0), (1, 0, 0), (2, 0, 0), (3, 0, 0), (4, 0, 0), (5, 0, 0), (6, 0, 0), (7, 0, 0), (8, 0, 0), (9, 0, 512), (10, 512, 1536), (11, 1536, 1536), (0, 512, 512), (1, 512, 512), (2, 512, 512), (3, 512, 512), (4, 512, 512), (5, 512, 512), (6, 512, 512), (7, 512, 512), (8, 512, 512), (8, 1536, 1536)])),
  (13, ([10, 11], [(0, 0, 0), (1, 0, 0), (2, 0, 0), (3, 0, 0), (4, 0, 0), (5, 0, 0), (6, 0, 0), (7, 0, 0), (8, 0, 0), (9, 0, 0), (10, 0, 1024), (11, 1024, 3072), (12, 3072, 3072), (0, 1024, 1024), (1, 1024, 1024), (2, 1024, 1024), (3, 1024, 1024), (4, 1024, 1024), (5, 1024, 1024), (6, 1024, 1024), (7, 1024, 1024), (8, 1024, 1024), (9, 1024, 1024), (9, 3072, 3072)])),
  (14, ([], [(0, 0, 0), (1, 0, 0), (2, 0, 0), (3, 0, 0), (4, 0, 0), (5, 0, 0), (6, 0, 0), (7, 0, 0), (8, 0, 0), (9, 0, 0), (10, 0, 0), (11, 0, 0), (12, 0, 0), (13, 0, 0), (14, 0, 0), (15, 0, 0), (16, 0, 0), (17, 0, 0), (18, 0, 0), (19, 0, 0), (20, 0, 0), (21, 0, 0), (22, 0, 0), (23, 0, 0), (24, 0, 0), (25, 0, 0), (26, 0, 0), (27, 0, 0), (28, 0, 0), (29, 0, 0), (30, 0, 0), (31, 0, 0), (32, 0, 0), (33, 0, 0), (34, 0, 0), (35, 0, 0), (36, 0, 0), (37, 0, 0)]))]
def dr10 : List (Nat × (List Nat × List (Nat × Nat × Nat))) := []
def dr11 : List (Nat × (List Nat × List (Nat × Nat × Nat))) := []
def dr12 : List (Nat × (List Nat × List (Nat × Nat × Nat))) := []
def dr13 : List (Nat × (List Nat × List (Nat × Nat × Nat))) := []
def dr14 : List (Nat × (List Nat × List (Nat × Nat × Nat))) := []
def dr15 : List (Nat × (List Nat × List (Nat × Nat × Nat))) := []
def dr16 : List (Nat × (List Nat × List (Nat × Nat × Nat))) := []
def dr17 : List (Nat × (List Nat × List (Nat × Nat × Nat))) := []
def dr18 : List (Nat × (List Nat × List (Nat × Nat × Nat))) := [(18, ([], [(0, 0, 0), (1, 0, 0), (2, 0, 0), (3, 0, 0), (4, 0, 0), (5, 0, 0), (6, 0, 0), (7, 0, 0), (8, 0, 0), (9, 0, 0), (10, 0, 0)])),
  (23, ([], [(0, 0, 0), (1, 0, 0), (2, 0, 0), (3, 0, 0), (4, 0, 0), (5, 0, 0), (6, 0, 0), (7, 0, 0), (8, 0, 0), (9, 0, 0), (10, 0, 0), (11, 0, 0)]))]
def dr19 : List (Nat × (List Nat × List (Nat × Nat × Nat))) := [(6, ([], [(0, 0, 0), (1, 0, 0), (2, 0, 0), (3, 0, 0), (4, 0, 0), (5, 0, 0), (6, 0, 0), (7, 0, 0), (8, 0, 0), (9, 0, 0)]))]
def dr20 : List (Nat × (List Nat × List (Nat × Nat × Nat))) := []
def dr21 : List (Nat × (List Nat × List (Nat × Nat × Nat))) := []
def dr22 : List (Nat × (List Nat × List (Nat × Nat × Nat))) := []
def dr23 : List (Nat × (List Nat × List (Nat × Nat × Nat))) := [(1, ([13, 14], [(0, 0, 0), (1, 0, 0), (2, 0, 0), (3, 0, 0), (4, 0, 0), (5, 0, 0), (6, 0, 0), (7, 0, 0), (8, 0, 0), (9, 0, 0), (10, 0, 0), (11, 0, 0), (12, 0, 0), (13, 0, 8192), (14, 8192, 24576), (0, 8192, 8192), (1, 8192, 8192), (2, 8192, 8192), (3, 8192, 8192), (4, 8192, 8192), (5, 8192, 8192), (6, 8192, 8192), (7, 8192, 8192), (8, 8192, 8192), (9, 8192, 8192), (10, 8192, 8192), (11, 8192, 8192), (12, 8192, 8192)])),
  (5, ([9, 11], [(0, 0, 0), (1, 0, 0), (2, 0, 0), (3, 0, 0), (4, 0, 0), (5, 0, 0), (6, 0, 0), (7, 0, 0), (8, 0, 0), (9, 0, 512), (10, 512, 512), (11, 512, 2560)]))]
def dr24 : List (Nat × (List Nat × List (Nat × Nat × Nat))) := []
def dr25 : List (Nat × (List Nat × List (Nat × Nat × Nat))) := [(6, ([10, 11, 12, 13], [(0, 0, 0), (1, 0, 0), (2, 0, 0), (3, 0, 0), (4, 0, 0), (5, 0, 0), (6, 0, 0), (7, 0, 0), (8, 0, 0), (9, 0, 0), (10, 0, 1024), (11, 1024, 3072), (12, 3072, 7168), (13, 7168, 15360), (11, 0, 2048), (0, 1024, 1024), (0, 2048, 2048), (1, 1024, 1024), (1, 2048, 2048), (2, 1024, 1024), (2, 2048, 2048), (3, 1024, 1024), (3, 2048, 2048), (4, 1024, 1024), (4, 2048, 2048), (5, 1024, 1024), (5, 2048, 2048), (6, 1024, 1024), (6, 2048, 2048), (7, 1024, 1024), (7, 2048, 2048), (8, 1024, 1024), (8, 2048, 2048), (9, 1024, 1024), (9, 2048, 2048), (10, 2048, 3072), (0, 3072, 3072), (1, 3072, 3072), (2, 3072, 3072), (3, 3072, 3072), (4, 3072, 3072), (5, 3072, 3072), (6, 3072, 3072), (7, 3072, 3072), (8, 3072, 3072), (9, 3072, 3072), (5, 7168, 7168), (6, 7168, 7168), (7, 7168, 7168), (8, 7168, 7168), (9, 7168, 7168)]))]
def dr26 : List (Nat × (List Nat × List (Nat × Nat × Nat))) := []
def dr27 : List (Nat × (List Nat × List (Nat × Nat × Nat))) := []
def dr28 : List (Nat × (List Nat × List (Nat × Nat × Nat))) := [(3, ([3, 4], [(0, 0, 0), (1, 0, 0), (2, 0, 0), (3, 0, 8), (4, 8, 24)])),
  (9, ([9, 10], [(0, 0, 0), (1, 0, 0), (2, 0, 0), (3, 0, 0), (4, 0, 0), (5, 0, 0), (6, 0, 0), (7, 0, 0), (8, 0, 0), (9, 0, 512), (10, 512, 1536), (11, 1536, 1536), (0, 512, 512), (1, 512, 512), (2, 512, 512), (3, 512, 512), (4, 512, 512), (5, 512, 512), (6, 512, 512), (7, 512, 512), (8, 512, 512), (8, 1536, 1536)])),
  (12, ([2, 3], [(0, 0, 0), (1, 0, 0), (2, 0, 4), (3, 4, 12), (1, 4, 4)]))]
def dr29 : List (Nat × (List Nat × List (Nat × Nat × Nat))) := []
def dr30 : List (Nat × (List Nat × List (Nat × Nat × Nat))) := []
def dr31 : List (Nat × (List Nat × List (Nat × Nat × Nat))) := []
def dr32 : List (Nat × (List Nat × List (Nat × Nat × Nat))) := []
def dr33 : List (Nat × (List Nat × List (Nat × Nat × Nat))) := [(8, ([4, 9, 11, 13], [(0, 0, 0), (1, 0, 0), (2, 0, 0), (3, 0, 0), (4, 0, 16), (5, 16, 16), (6, 16, 16), (7, 16, 16), (8, 16, 16), (9, 16, 528), (10, 528, 528), (11, 528, 2576), (12, 2576, 2576), (13, 2576, 10768), (5, 0, 0), (6, 0, 0), (7, 0, 0), (8, 0, 0), (10, 16, 16)])),
  (11, ([4, 9, 11, 13], [(0, 0, 0), (1, 0, 0), (2, 0, 0), (3, 0, 0), (4, 0, 16), (5, 16, 16), (6, 16, 16), (7, 16, 16), (8, 16, 16), (9, 16, 528), (10, 528, 528), (11, 528, 2576), (12, 2576, 2576), (13, 2576, 10768), (5, 0, 0), (6, 0, 0), (7, 0, 0), (8, 0, 0), (10, 16, 16)])),
  (13, ([8, 17, 19, 21], [(0, 0, 0), (1, 0, 0), (2, 0, 0), (3, 0, 0), (4, 0, 0), (5, 0, 0), (6, 0, 0), (7, 0, 0), (8, 0, 256), (9, 256, 256), (10, 256, 256), (11, 256, 256), (12, 256, 256), (13, 256, 256), (14, 256, 256), (15, 256, 256), (16, 256, 256), (17, 256, 131328), (18, 131328, 131328), (19, 131328, 655616), (20, 655616, 655616), (21, 655616, 2752768), (9, 0, 0), (10, 0, 0), (11, 0, 0), (12, 0, 0), (13, 0, 0), (14, 0, 0), (15, 0, 0), (16, 0, 0), (18, 256, 256)])),
  (15, ([4, 9, 11, 13], [(0, 0, 0), (1, 0, 0), (2, 0, 0), (3, 0, 0), (4, 0, 16), (5, 16, 16), (6, 16, 16), (7, 16, 16), (8, 16, 16), (9, 16, 528), (10, 528, 528), (11, 528, 2576), (12, 2576, 2576), (13, 2576, 10768), (5, 0, 0), (6, 0, 0), (7, 0, 0), (8, 0, 0), (10, 16, 16)]))]
def dr34 : List (Nat × (List Nat × List (Nat × Nat × Nat))) := [(10, ([7], [(0, 0, 0), (1, 0, 0), (2, 0, 0), (3, 0, 0), (4, 0, 0), (5, 0, 0), (6, 0, 0), (7, 0, 128)])),
  (11, ([10, 11], [(0, 0, 0), (1, 0, 0), (2, 0, 0), (3, 0, 0), (4, 0, 0), (5, 0, 0), (6, 0, 0), (7, 0, 0), (8, 0, 0), (9, 0, 0), (10, 0, 1024), (11, 1024, 3072), (12, 3072, 3072), (0, 1024, 1024), (1, 1024, 1024), (2, 1024, 1024), (3, 1024, 1024), (4, 1024, 1024), (5, 1024, 1024), (6, 1024, 1024), (7, 1024, 1024), (8, 1024, 1024), (9, 1024, 1024), (9, 3072, 3072)])),
  (14, ([14], [(0, 0, 0), (1, 0, 0), (2, 0, 0), (3, 0, 0), (4, 0, 0), (5, 0, 0), (6, 0, 0), (7, 0, 0), (8, 0, 0), (9, 0, 0), (10, 0, 0), (11, 0, 0), (12, 0, 0), (13, 0, 0), (14, 0, 16384)]))]
def dr35 : List (Nat × (List Nat × List (Nat × Nat × Nat))) := [(6, ([], [(0, 0, 0), (1, 0, 0), (2, 0, 0), (3, 0, 0), (4, 0, 0), (5, 0, 0), (6, 0, 0), (7, 0, 0), (8, 0, 0)]))]
def dr36 : List (Nat × (List Nat × List (Nat × Nat × Nat))) := [(10, ([], [(0, 0, 0), (1, 0, 0), (2, 0, 0), (3, 0, 0), (4, 0, 0), (5, 0, 0), (6, 0, 0), (7, 0, 0), (8, 0, 0), (9, 0, 0), (10, 0, 0)]))]
def dr37 : List (Nat × (List Nat × List (Nat × Nat × Nat))) := []
def dr38 : List (Nat × (List Nat × List (Nat × Nat × Nat))) := []
def dr39 : List (Nat × (List Nat × List (Nat × Nat × Nat))) := []
def dr40 : List (Nat × (List Nat × List (Nat × Nat × Nat))) := [(36, ([12], [(0, 0, 0), (1, 0, 0), (2, 0, 0), (3, 0, 0), (4, 0, 0), (5, 0, 0), (6, 0, 0), (7, 0, 0), (8, 0, 0), (9, 0, 0), (10, 0, 0), (11, 0, 0), (12, 0, 4096)]))]
def dr41 : List (Nat × (List Nat × List (Nat × Nat × Nat))) := []
def dr42 : List (Nat × (List Nat × List (Nat × Nat × Nat))) := []
def dr43 : List (Nat × (List Nat × List (Nat × Nat × Nat))) := []
def dr44 : List (Nat × (List Nat × List (Nat × Nat × Nat))) := [(3, ([8, 9], [(0, 0, 0), (1, 0, 0), (2, 0, 0), (3, 0, 0), (4, 0, 0), (5, 0, 0), (6, 0, 0), (7, 0, 0), (8, 0, 256), (9, 256, 768), (10, 768, 768), (0, 256, 256), (1, 256, 256), (2, 256, 256), (3, 256, 256), (4, 256, 256), (5, 256, 256), (6, 256, 256), (7, 256, 256), (7, 768, 768)])),
  (4, ([10], [(0, 0, 0), (1, 0, 0), (2, 0, 0), (3, 0, 0), (4, 0, 0), (5, 0, 0), (6, 0, 0), (7, 0, 0), (8, 0, 0), (9, 0, 0), (10, 0, 1024)]))]
def dr45 : List (Nat × (List Nat × List (Nat × Nat × Nat))) := [(2, ([5], [(0, 0, 0), (1, 0, 0), (2, 0, 0), (3, 0, 0), (4, 0, 0), (5, 0, 32)])),
  (3, ([8, 9], [(0, 0, 0), (1, 0, 0), (2, 0, 0), (3, 0, 0), (4, 0, 0), (5, 0, 0), (6, 0, 0), (7, 0, 0), (8, 0, 256), (9, 256, 768), (10, 768, 768), (0, 256, 256), (1, 256, 256), (2, 256, 256), (3, 256, 256), (4, 256, 256), (5, 256, 256), (6, 256, 256), (7, 256, 256), (7, 768, 768)])),
  (6, ([9], [(0, 0, 0), (1, 0, 0), (2, 0, 0), (3, 0, 0), (4, 0, 0), (5, 0, 0), (6, 0, 0), (7, 0, 0), (8, 0, 0), (9, 0, 512)]))]
def dr46 : List (Nat × (List Nat × List (Nat × Nat × Nat))) := []
def dr47 : List (Nat × (List Nat × List (Nat × Nat × Nat))) := []
def dr48 : List (Nat × (List Nat × List (Nat × Nat × Nat))) := []
def dr49 : List (Nat × (List Nat × List (Nat × Nat × Nat))) := []
def dr50 : List (Nat × (List Nat × List (Nat × Nat × Nat))) := []
def dr51 : List (Nat × (List Nat × List (Nat × Nat × Nat))) := []
def dr52 : List (Nat × (List Nat × List (Nat × Nat × Nat))) := []
def dr53 : List (Nat × (List Nat × List (Nat × Nat × Nat))) := []
def dr54 : List (Nat × (List Nat × List (Nat × Nat × Nat))) := []
def dr55 : List (Nat × (List Nat × List (Nat × Nat × Nat))) := []
def dr56 : List (Nat × (List Nat × List (Nat × Nat × Nat))) := []
def dr57 : List (Nat × (List Nat × List (Nat × Nat × Nat))) := []
def dr58 : List (Nat × (List Nat × List (Nat × Nat × Nat))) := []
def dr59 : List (Nat × (List Nat × List (Nat × Nat × Nat))) := [(1, ([4, 5, 6, 7], [(0, 0, 0), (1, 0, 0), (2, 0, 0), (3, 0, 0), (4, 0, 16), (5, 16, 48), (6, 48, 112), (7, 112, 240), (5, 0, 32), (0, 16, 16), (0, 32, 32), (1, 16, 16), (1, 32, 32), (2, 16, 16), (2, 32, 32), (3, 16, 16), (3, 32, 32), (4, 32, 48), (0, 48, 48), (1, 48, 48), (2, 48, 48), (3, 48, 48)]))]
def dr60 : List (Nat × (List Nat × List (Nat × Nat × Nat))) := []
def dr61 : List (Nat × (List Nat × List (Nat × Nat × Nat))) := []
def dr62 : List (Nat × (List Nat × List (Nat × Nat × Nat))) := []
def dr63 : List (Nat × (List Nat × List (Nat × Nat × Nat))) := [(18, ([4], [(0, 0, 0), (1, 0, 0), (2, 0, 0), (3, 0, 0), (4, 0, 16), (5, 16, 16)]))]
def dr64 : List (Nat × (List Nat × List (Nat × Nat × Nat))) := []
def dr65 : List (Nat × (List Nat × List (Nat × Nat × Nat))) := [(1, ([8], [(0, 0, 0), (1, 0, 0), (2, 0, 0), (3, 0, 0), (4, 0, 0), (5, 0, 0), (6, 0, 0), (7, 0, 0), (8, 0, 256)]))]
def dr66 : List (Nat × (List Nat × List (Nat × Nat × Nat))) := []
def dr67 : List (Nat × (List Nat × List (Nat × Nat × Nat))) := []
def dr68 : List (Nat × (List Nat × List (Nat × Nat × Nat))) := [(8, ([10, 11], [(0, 0, 0), (1, 0, 0), (2, 0, 0), (3, 0, 0), (4, 0, 0), (5, 0, 0), (6, 0, 0), (7, 0, 0), (8, 0, 0), (9, 0, 0), (10, 0, 1024), (11, 1024, 3072), (12, 3072, 3072), (0, 1024, 1024), (1, 1024, 1024), (2, 1024, 1024), (3, 1024, 1024), (4, 1024, 1024), (5, 1024, 1024), (6, 1024, 1024), (7, 1024, 1024), (8, 1024, 1024), (9, 1024, 1024), (9, 3072, 3072)])),
  (10, ([], [(0, 0, 0), (1, 0, 0), (2, 0, 0), (3, 0, 0), (4, 0, 0), (5, 0, 0), (6, 0, 0), (7, 0, 0), (8, 0, 0), (9, 0, 0)])),
  (19, ([], [(0, 0, 0), (1, 0, 0), (2, 0, 0), (3, 0, 0), (4, 0, 0), (5, 0, 0), (6, 0, 0), (7, 0, 0), (8, 0, 0), (9, 0, 0), (10, 0, 0), (11, 0, 0), (12, 0, 0), (13, 0, 0)]))]
def dr69 : List (Nat × (List Nat × List (Nat × Nat × Nat))) := [(12, ([8, 10], [(0, 0, 0), (1, 0, 0), (2, 0, 0), (3, 0, 0), (4, 0, 0), (5, 0, 0), (6, 0, 0), (7, 0, 0), (8, 0, 256), (9, 256, 256), (10, 256, 1280)])),
  (13, ([9, 10], [(0, 0, 0), (1, 0, 0), (2, 0, 0), (3, 0, 0), (4, 0, 0), (5, 0, 0), (6, 0, 0), (7, 0, 0), (8, 0, 0), (9, 0, 512), (10, 512, 1536), (11, 1536, 1536), (0, 512, 512), (1, 512, 512), (2, 512, 512), (3, 512, 512), (4, 512, 512), (5, 512, 512), (6, 512, 512), (7, 512, 512), (8, 512, 512), (8, 1536, 1536)])),
  (15, ([9], [(0, 0, 0), (1, 0, 0), (2, 0, 0), (3, 0, 0), (4, 0, 0), (5, 0, 0), (6, 0, 0), (7, 0, 0), (8, 0, 0), (9, 0, 512)]))]
def dr70 : List (Nat × (List Nat × List (Nat × Nat × Nat))) := [(7, ([10, 11], [(0, 0, 0), (1, 0, 0), (2, 0, 0), (3, 0, 0), (4, 0, 0), (5, 0, 0), (6, 0, 0), (7, 0, 0), (8, 0, 0), (9, 0, 0), (10, 0, 1024), (11, 1024, 3072), (12, 3072, 3072), (0, 1024, 1024), (1, 1024, 1024), (2, 1024, 1024), (3, 1024, 1024), (4, 1024, 1024), (5, 1024, 1024), (6, 1024, 1024), (7, 1024, 1024), (8, 1024, 1024), (9, 1024, 1024), (9, 3072, 3072)])),
  (9, ([8], [(0, 0, 0), (1, 0, 0), (2, 0, 0), (3, 0, 0), (4, 0, 0), (5, 0, 0), (6, 0, 0), (7, 0, 0), (8, 0, 256)])),
  (13, ([10, 11], [(0, 0, 0), (1, 0, 0), (2, 0, 0), (3, 0, 0), (4, 0, 0), (5, 0, 0), (6, 0, 0), (7, 0, 0), (8, 0, 0), (9, 0, 0), (10, 0, 1024), (11, 1024, 3072), (12, 3072, 3072), (0, 1024, 1024), (1, 1024, 1024), (2, 1024, 1024), (3, 1024, 1024), (4, 1024, 1024), (5, 1024, 1024), (6, 1024, 1024), (7, 1024, 1024), (8, 1024, 1024), (9, 1024, 1024), (9, 3072, 3072)])),
  (14, ([], [(0, 0, 0), (1, 0, 0), (2, 0, 0), (3, 0, 0), (4, 0, 0), (5, 0, 0), (6, 0, 0), (7, 0, 0), (8, 0, 0), (9, 0, 0)])),
  (17, ([10, 11], [(0, 0, 0), (1, 0, 0), (2, 0, 0), (3, 0, 0), (4, 0, 0), (5, 0, 0), (6, 0, 0), (7, 0, 0), (8, 0, 0), (9, 0, 0), (10, 0, 1024), (11, 1024, 3072), (12, 3072, 3072), (0, 1024, 1024), (1, 1024, 1024), (2, 1024, 1024), (3, 1024, 1024), (4, 1024, 1024), (5, 1024, 1024), (6, 1024, 1024), (7, 1024, 1024), (8, 1024, 1024), (9, 1024, 1024), (9, 3072, 3072)])),
  (20, ([8], [(0, 0, 0), (1, 0, 0), (2, 0, 0), (3, 0, 0), (4, 0, 0), (5, 0, 0), (6, 0, 0), (7, 0, 0), (8, 0, 256)]))]
def dr71 : List (Nat × (List Nat × List (Nat × Nat × Nat))) := [(3, ([], [(0, 0, 0), (1, 0, 0), (2, 0, 0), (3, 0, 0), (4, 0, 0), (5, 0, 0), (6, 0, 0), (7, 0, 0)]))]
def dr72 : List (Nat × (List Nat × List (Nat × Nat × Nat))) := [(6, ([], [(0, 0, 0), (1, 0, 0), (2, 0, 0), (3, 0, 0), (4, 0, 0), (5, 0, 0), (6, 0, 0), (7, 0, 0), (8, 0, 0), (9, 0, 0), (10, 0, 0), (11, 0, 0)]))]
def dr73 : List (Nat × (List Nat × List (Nat × Nat × Nat))) := [(6, ([12, 13], [(0, 0, 0), (1, 0, 0), (2, 0, 0), (3, 0, 0), (4, 0, 0), (5, 0, 0), (6, 0, 0), (7, 0, 0), (8, 0, 0), (9, 0, 0), (10, 0, 0), (11, 0, 0), (12, 0, 4096), (13, 4096, 12288), (0, 4096, 4096), (1, 4096, 4096), (2, 4096, 4096), (3, 4096, 4096), (4, 4096, 4096), (5, 4096, 4096), (6, 4096, 4096), (7, 4096, 4096), (8, 4096, 4096), (9, 4096, 4096), (10, 4096, 4096), (11, 4096, 4096)])),
  (11, ([18], [(0, 0, 0), (1, 0, 0), (2, 0, 0), (3, 0, 0), (4, 0, 0), (5, 0, 0), (6, 0, 0), (7, 0, 0), (8, 0, 0), (9, 0, 0), (10, 0, 0), (11, 0, 0), (12, 0, 0), (13, 0, 0), (14, 0, 0), (15, 0, 0), (16, 0, 0), (17, 0, 0), (18, 0, 262144)])),
  (18, ([14], [(0, 0, 0), (1, 0, 0), (2, 0, 0), (3, 0, 0), (4, 0, 0), (5, 0, 0), (6, 0, 0), (7, 0, 0), (8, 0, 0), (9, 0, 0), (10, 0, 0), (11, 0, 0), (12, 0, 0), (13, 0, 0), (14, 0, 16384)]))]
def dr74 : List (Nat × (List Nat × List (Nat × Nat × Nat))) := []
def dr75 : List (Nat × (List Nat × List (Nat × Nat × Nat))) := []
def dr76 : List (Nat × (List Nat × List (Nat × Nat × Nat))) := [(6, ([9, 10], [(0, 0, 0), (1, 0, 0), (2, 0, 0), (3, 0, 0), (4, 0, 0), (5, 0, 0), (6, 0, 0), (7, 0, 0), (8, 0, 0), (9, 0, 512), (10, 512, 1536), (11, 1536, 1536), (0, 512, 512), (1, 512, 512), (2, 512, 512), (3, 512, 512), (4, 512, 512), (5, 512, 512), (6, 512, 512), (7, 512, 512), (8, 512, 512), (8, 1536, 1536)]))]
def dr77 : List (Nat × (List Nat × List (Nat × Nat × Nat))) := []
def dr78 : List (Nat × (List Nat × List (Nat × Nat × Nat))) := []
def dr79 : List (Nat × (List Nat × List (Nat × Nat × Nat))) := [(11, ([8, 17, 19, 21], [(0, 0, 0), (1, 0, 0), (2, 0, 0), (3, 0, 0), (4, 0, 0), (5, 0, 0), (6, 0, 0), (7, 0, 0), (8, 0, 256), (9, 256, 256), (10, 256, 256), (11, 256, 256), (12, 256, 256), (13, 256, 256), (14, 256, 256), (15, 256, 256), (16, 256, 256), (17, 256, 131328), (18, 131328, 131328), (19, 131328, 655616), (20, 655616, 655616), (21, 655616, 2752768), (9, 0, 0), (10, 0, 0), (11, 0, 0), (12, 0, 0), (13, 0, 0), (14, 0, 0), (15, 0, 0), (16, 0, 0), (18, 256, 256)]))]
def dr80 : List (Nat × (List Nat × List (Nat × Nat × Nat))) := []
def dr81 : List (Nat × (List Nat × List (Nat × Nat × Nat))) := []
def dr82 : List (Nat × (List Nat × List (Nat × Nat × Nat))) := []
def dr83 : List (Nat × (List Nat × List (Nat × Nat × Nat))) := []
def dr84 : List (Nat × (List Nat × List (Nat × Nat × Nat))) := [(8, ([], [(0, 0, 0), (1, 0, 0), (2, 0, 0), (3, 0, 0), (4, 0, 0), (5, 0, 0), (6, 0, 0), (7, 0, 0), (8, 0, 0), (9, 0, 0)]))]
def dr85 : List (Nat × (List Nat × List (Nat × Nat × Nat))) := []
def dr86 : List (Nat × (List Nat × List (Nat × Nat × Nat))) := []
def dr87 : List (Nat × (List Nat × List (Nat × Nat × Nat))) := []
def dr88 : List (Nat × (List Nat × List (Nat × Nat × Nat))) := []
def dr89 : List (Nat × (List Nat × List (Nat × Nat × Nat))) := []
def dr90 : List (Nat × (List Nat × List (Nat × Nat × Nat))) := []
def dr91 : List (Nat × (List Nat × List (Nat × Nat × Nat))) := [(2, ([2, 5], [(0, 0, 0), (1, 0, 0), (2, 0, 4), (3, 4, 4), (4, 4, 4), (5, 4, 36), (6, 36, 36), (7, 36, 36), (3, 0, 0), (4, 0, 0), (5, 0, 32), (0, 32, 32), (1, 32, 32), (2, 32, 36), (6, 4, 4)])),
  (12, ([11], [(0, 0, 0), (1, 0, 0), (2, 0, 0), (3, 0, 0), (4, 0, 0), (5, 0, 0), (6, 0, 0), (7, 0, 0), (8, 0, 0), (9, 0, 0), (10, 0, 0), (11, 0, 2048)]))]
def dr92 : List (Nat × (List Nat × List (Nat × Nat × Nat))) := [(5, ([19], [(0, 0, 0), (1, 0, 0), (2, 0, 0), (3, 0, 0), (4, 0, 0), (5, 0, 0), (6, 0, 0), (7, 0, 0), (8, 0, 0), (9, 0, 0), (10, 0, 0), (11, 0, 0), (12, 0, 0), (13, 0, 0), (14, 0, 0), (15, 0, 0), (16, 0, 0), (17, 0, 0), (18, 0, 0), (19, 0, 524288)]))]
def dr93 : List (Nat × (List Nat × List (Nat × Nat × Nat))) := []
def dr94 : List (Nat × (List Nat × List (Nat × Nat × Nat))) := []
def dr95 : List (Nat × (List Nat × List (Nat × Nat × Nat))) := []
def dr96 : List (Nat × (List Nat × List (Nat × Nat × Nat))) := []
def dr97 : List (Nat × (List Nat × List (Nat × Nat × Nat))) := [(3, ([], [(0, 0, 0), (1, 0, 0), (2, 0, 0), (3, 0, 0), (4, 0, 0), (5, 0, 0), (6, 0, 0), (7, 0, 0), (8, 0, 0), (9, 0, 0), (10, 0, 0), (11, 0, 0), (12, 0, 0)]))]
def dr98 : List (Nat × (List Nat × List (Nat × Nat × Nat))) := []
def dr99 : List (Nat × (List Nat × List (Nat × Nat × Nat))) := [(1, ([], [(0, 0, 0), (1, 0, 0), (2, 0, 0), (3, 0, 0), (4, 0, 0), (5, 0, 0), (6, 0, 0), (7, 0, 0), (8, 0, 0), (9, 0, 0), (10, 0, 0), (11, 0, 0)]))]
def dr100 : List (Nat × (List Nat × List (Nat × Nat × Nat))) := [(17, ([], [(0, 0, 0), (1, 0, 0), (2, 0, 0), (3, 0, 0), (4, 0, 0), (5, 0, 0), (6, 0, 0), (7, 0, 0), (8, 0, 0), (9, 0, 0), (10, 0, 0), (11, 0, 0), (12, 0, 0), (13, 0, 0), (14, 0, 0), (15, 0, 0), (16, 0, 0)]))]
def dr101 : List (Nat × (List Nat × List (Nat × Nat × Nat))) := []
def dr102 : List (Nat × (List Nat × List (Nat × Nat × Nat))) := []
def dr103 : List (Nat × (List Nat × List (Nat × Nat × Nat))) := [(6, ([], [(0, 0, 0), (1, 0, 0), (2, 0, 0), (3, 0, 0), (4, 0, 0), (5, 0, 0), (6, 0, 0), (7, 0, 0), (8, 0, 0)]))]
def dr104 : List (Nat × (List Nat × List (Nat × Nat × Nat))) := []
def dr105 : List (Nat × (List Nat × List (Nat × Nat × Nat))) := []
def dr106 : List (Nat × (List Nat × List (Nat × Nat × Nat))) := []
def dr107 : List (Nat × (List Nat × List (Nat × Nat × Nat))) := []
def dr108 : List (Nat × (List Nat × List (Nat × Nat × Nat))) := []
def dr109 : List (Nat × (List Nat × List (Nat × Nat × Nat))) := []
def dr110 : List (Nat × (List Nat × List (Nat × Nat × Nat))) := [(3, ([9], [(0, 0, 0), (1, 0, 0), (2, 0, 0), (3, 0, 0), (4, 0, 0), (5, 0, 0), (6, 0, 0), (7, 0, 0), (8, 0, 0), (9, 0, 512), (10, 512, 512), (8, 512, 512)]))]
def dr111 : List (Nat × (List Nat × List (Nat × Nat × Nat))) := [(2, ([7, 9, 12], [(0, 0, 0), (1, 0, 0), (2, 0, 0), (3, 0, 0), (4, 0, 0), (5, 0, 0), (6, 0, 0), (7, 0, 128), (8, 128, 128), (9, 128, 640), (10, 640, 640), (11, 640, 640), (12, 640, 4736), (10, 128, 128), (11, 128, 128), (12, 128, 4224), (8, 4224, 4224), (9, 4224, 4736)]))]
def dr112 : List (Nat × (List Nat × List (Nat × Nat × Nat))) := [(1, ([11, 14], [(0, 0, 0), (1, 0, 0), (2, 0, 0), (3, 0, 0), (4, 0, 0), (5, 0, 0), (6, 0, 0), (7, 0, 0), (8, 0, 0), (9, 0, 0), (10, 0, 0), (11, 0, 2048), (12, 2048, 2048), (13, 2048, 2048), (14, 2048, 18432), (0, 2048, 2048)]))]
def dr113 : List (Nat × (List Nat × List (Nat × Nat × Nat))) := []
def dr114 : List (Nat × (List Nat × List (Nat × Nat × Nat))) := []
def dr115 : List (Nat × (List Nat × List (Nat × Nat × Nat))) := []
def dr116 : List (Nat × (List Nat × List (Nat × Nat × Nat))) := []
def dr117 : List (Nat × (List Nat × List (Nat × Nat × Nat))) := [(5, ([8], [(0, 0, 0), (1, 0, 0), (2, 0, 0), (3, 0, 0), (4, 0, 0), (5, 0, 0), (6, 0, 0), (7, 0, 0), (8, 0, 256)])),
  (9, ([8], [(0, 0, 0), (1, 0, 0), (2, 0, 0), (3, 0, 0), (4, 0, 0), (5, 0, 0), (6, 0, 0), (7, 0, 0), (8, 0, 256)])),
  (14, ([10, 11], [(0, 0, 0), (1, 0, 0), (2, 0, 0), (3, 0, 0), (4, 0, 0), (5, 0, 0), (6, 0, 0), (7, 0, 0), (8, 0, 0), (9, 0, 0), (10, 0, 1024), (11, 1024, 3072), (12, 3072, 3072), (0, 1024, 1024), (1, 1024, 1024), (2, 1024, 1024), (3, 1024, 1024), (4, 1024, 1024), (5, 1024, 1024), (6, 1024, 1024), (7, 1024, 1024), (8, 1024, 1024), (9, 1024, 1024), (9, 3072, 3072)])),
  (15, ([10, 11], [(0, 0, 0), (1, 0, 0), (2, 0, 0), (3, 0, 0), (4, 0, 0), (5, 0, 0), (6, 0, 0), (7, 0, 0), (8, 0, 0), (9, 0, 0), (10, 0, 1024), (11, 1024, 3072), (12, 3072, 3072), (0, 1024, 1024), (1, 1024, 1024), (2, 1024, 1024), (3, 1024, 1024), (4, 1024, 1024), (5, 1024, 1024), (6, 1024, 1024), (7, 1024, 1024), (8, 1024, 1024), (9, 1024, 1024), (9, 3072, 3072)]))]
def dr118 : List (Nat × (List Nat × List (Nat × Nat × Nat))) := []
def dr119 : List (Nat × (List Nat × List (Nat × Nat × Nat))) := [(8, ([], [(0, 0, 0), (1, 0, 0), (2, 0, 0), (3, 0, 0), (4, 0, 0), (5, 0, 0), (6, 0, 0), (7, 0, 0), (8, 0, 0), (9, 0, 0), (10, 0, 0), (11, 0, 0), (12, 0, 0), (13, 0, 0)]))]
def dr120 : List (Nat × (List Nat × List (Nat × Nat × Nat))) := []
def dr121 : List (Nat × (List Nat × List (Nat × Nat × Nat))) := [(6, ([12], [(0, 0, 0), (1, 0, 0), (2, 0, 0), (3, 0, 0), (4, 0, 0), (5, 0, 0), (6, 0, 0), (7, 0, 0), (8, 0, 0), (9, 0, 0), (10, 0, 0), (11, 0, 0), (12, 0, 4096)])),
  (10, ([10, 11], [(0, 0, 0), (1, 0, 0), (2, 0, 0), (3, 0, 0), (4, 0, 0), (5, 0, 0), (6, 0, 0), (7, 0, 0), (8, 0, 0), (9, 0, 0), (10, 0, 1024), (11, 1024, 3072), (12, 3072, 3072), (0, 1024, 1024), (1, 1024, 1024), (2, 1024, 1024), (3, 1024, 1024), (4, 1024, 1024), (5, 1024, 1024), (6, 1024, 1024), (7, 1024, 1024), (8, 1024, 1024), (9, 1024, 1024), (9, 3072, 3072)])),
  (11, ([10, 11], [(0, 0, 0), (1, 0, 0), (2, 0, 0), (3, 0, 0), (4, 0, 0), (5, 0, 0), (6, 0, 0), (7, 0, 0), (8, 0, 0), (9, 0, 0), (10, 0, 1024), (11, 1024, 3072), (12, 3072, 3072), (0, 1024, 1024), (1, 1024, 1024), (2, 1024, 1024), (3, 1024, 1024), (4, 1024, 1024), (5, 1024, 1024), (6, 1024, 1024), (7, 1024, 1024), (8, 1024, 1024), (9, 1024, 1024), (9, 3072, 3072)])),
  (16, ([11], [(0, 0, 0), (1, 0, 0), (2, 0, 0), (3, 0, 0), (4, 0, 0), (5, 0, 0), (6, 0, 0), (7, 0, 0), (8, 0, 0), (9, 0, 0), (10, 0, 0), (11, 0, 2048), (12, 2048, 2048)])),
  (12, ([11], [(0, 0, 0), (1, 0, 0), (2, 0, 0), (3, 0, 0), (4, 0, 0), (5, 0, 0), (6, 0, 0), (7, 0, 0), (8, 0, 0), (9, 0, 0), (10, 0, 0), (11, 0, 2048), (12, 2048, 2048)]))]
def dr122 : List (Nat × (List Nat × List (Nat × Nat × Nat))) := [(3, ([], [(0, 0, 0), (1, 0, 0), (2, 0, 0), (3, 0, 0), (4, 0, 0), (5, 0, 0), (6, 0, 0), (7, 0, 0)])),
  (8, ([], [(0, 0, 0), (1, 0, 0), (2, 0, 0), (3, 0, 0), (4, 0, 0), (5, 0, 0), (6, 0, 0), (7, 0, 0), (8, 0, 0), (9, 0, 0), (10, 0, 0), (11, 0, 0), (12, 0, 0), (13, 0, 0), (14, 0, 0), (15, 0, 0), (16, 0, 0), (17, 0, 0), (18, 0, 0), (19, 0, 0), (20, 0, 0), (21, 0, 0), (22, 0, 0), (23, 0, 0), (24, 0, 0), (25, 0, 0), (26, 0, 0), (27, 0, 0), (28, 0, 0), (29, 0, 0)])),
  (9, ([13], [(0, 0, 0), (1, 0, 0), (2, 0, 0), (3, 0, 0), (4, 0, 0), (5, 0, 0), (6, 0, 0), (7, 0, 0), (8, 0, 0), (9, 0, 0), (10, 0, 0), (11, 0, 0), (12, 0, 0), (13, 0, 8192), (14, 8192, 8192)])),
  (11, ([], [(0, 0, 0), (1, 0, 0), (2, 0, 0), (3, 0, 0), (4, 0, 0), (5, 0, 0), (6, 0, 0), (7, 0, 0), (8, 0, 0), (9, 0, 0), (10, 0, 0), (11, 0, 0), (12, 0, 0), (13, 0, 0), (14, 0, 0), (15, 0, 0), (16, 0, 0), (17, 0, 0), (18, 0, 0), (19, 0, 0), (20, 0, 0), (21, 0, 0)])),
  (5, ([19], [(0, 0, 0), (1, 0, 0), (2, 0, 0), (3, 0, 0), (4, 0, 0), (5, 0, 0), (6, 0, 0), (7, 0, 0), (8, 0, 0), (9, 0, 0), (10, 0, 0), (11, 0, 0), (12, 0, 0), (13, 0, 0), (14, 0, 0), (15, 0, 0), (16, 0, 0), (17, 0, 0), (18, 0, 0), (19, 0, 524288), (20, 524288, 524288)]))]
def dr123 : List (Nat × (List Nat × List (Nat × Nat × Nat))) := []
def dr124 : List (Nat × (List Nat × List (Nat × Nat × Nat))) := []
def dr125 : List (Nat × (List Nat × List (Nat × Nat × Nat))) := [(4, ([9, 10], [(0, 0, 0), (1, 0, 0), (2, 0, 0), (3, 0, 0), (4, 0, 0), (5, 0, 0), (6, 0, 0), (7, 0, 0), (8, 0, 0), (9, 0, 512), (10, 512, 1536), (11, 1536, 1536), (0, 512, 512), (1, 512, 512), (2, 512, 512), (3, 512, 512), (4, 512, 512), (5, 512, 512), (6, 512, 512), (7, 512, 512), (8, 512, 512), (8, 1536, 1536)]))]
def dr126 : List (Nat × (List Nat × List (Nat × Nat × Nat))) := []
def dr127 : List (Nat × (List Nat × List (Nat × Nat × Nat))) := []
def dr128 : List (Nat × (List Nat × List (Nat × Nat × Nat))) := [(3, ([], [(0, 0, 0), (1, 0, 0), (2, 0, 0), (3, 0, 0), (4, 0, 0), (5, 0, 0), (6, 0, 0), (7, 0, 0), (8, 0, 0), (9, 0, 0), (10, 0, 0), (11, 0, 0), (12, 0, 0)])),
  (9, ([9], [(0, 0, 0), (1, 0, 0), (2, 0, 0), (3, 0, 0), (4, 0, 0), (5, 0, 0), (6, 0, 0), (7, 0, 0), (8, 0, 0), (9, 0, 512), (10, 512, 512)])),
  (16, ([4, 7, 12, 14, 15], [(0, 0, 0), (1, 0, 0), (2, 0, 0), (3, 0, 0), (4, 0, 16), (5, 16, 16), (6, 16, 16), (7, 16, 144), (8, 144, 144), (9, 144, 144), (10, 144, 144), (11, 144, 144), (12, 144, 4240), (13, 4240, 4240), (14, 4240, 20624), (15, 20624, 53392), (5, 0, 0), (6, 0, 0), (8, 0, 0), (9, 0, 0), (10, 0, 0), (11, 0, 0), (14, 0, 16384), (0, 16384, 16384), (1, 16384, 16384), (2, 16384, 16384), (3, 16384, 16384), (4, 16384, 16400), (5, 16384, 16384), (6, 16384, 16384), (8, 16, 16), (8, 16384, 16384), (9, 16, 16), (9, 16384, 16384), (10, 16, 16), (10, 16384, 16384), (11, 16, 16), (11, 16384, 16384), (14, 16, 16400), (5, 16400, 16400), (6, 16400, 16400), (7, 16400, 16528), (8, 16400, 16400), (9, 16400, 16400), (10, 16400, 16400), (11, 16400, 16400), (14, 144, 16528), (8, 16528, 16528), (9, 16528, 16528), (10, 16528, 16528), (11, 16528, 16528), (12, 16528, 20624), (13, 20624, 20624)]))]
def dr129 : List (Nat × (List Nat × List (Nat × Nat × Nat))) := [(6, ([], [(0, 0, 0), (1, 0, 0), (2, 0, 0), (3, 0, 0), (4, 0, 0), (5, 0, 0), (6, 0, 0), (7, 0, 0), (8, 0, 0), (9, 0, 0), (10, 0, 0), (11, 0, 0), (12, 0, 0)])),
  (9, ([8], [(0, 0, 0), (1, 0, 0), (2, 0, 0), (3, 0, 0), (4, 0, 0), (5, 0, 0), (6, 0, 0), (7, 0, 0), (8, 0, 256), (9, 256, 256)])),
  (11, ([4, 10, 12, 13], [(0, 0, 0), (1, 0, 0), (2, 0, 0), (3, 0, 0), (4, 0, 16), (5, 16, 16), (6, 16, 16), (7, 16, 16), (8, 16, 16), (9, 16, 16), (10, 16, 1040), (11, 1040, 1040), (12, 1040, 5136), (13, 5136, 13328), (5, 0, 0), (6, 0, 0), (7, 0, 0), (8, 0, 0), (9, 0, 0), (12, 0, 4096), (0, 4096, 4096), (1, 4096, 4096), (2, 4096, 4096), (3, 4096, 4096), (4, 4096, 4112), (5, 4096, 4096), (6, 4096, 4096), (7, 4096, 4096), (8, 4096, 4096), (9, 4096, 4096), (12, 16, 4112), (5, 4112, 4112), (6, 4112, 4112), (7, 4112, 4112), (8, 4112, 4112), (9, 4112, 4112), (10, 4112, 5136), (11, 5136, 5136)]))]
def dr130 : List (Nat × (List Nat × List (Nat × Nat × Nat))) := [(3, ([8, 9], [(0, 0, 0), (1, 0, 0), (2, 0, 0), (3, 0, 0), (4, 0, 0), (5, 0, 0), (6, 0, 0), (7, 0, 0), (8, 0, 256), (9, 256, 768), (10, 768, 768), (0, 256, 256), (1, 256, 256), (2, 256, 256), (3, 256, 256), (4, 256, 256), (5, 256, 256), (6, 256, 256), (7, 256, 256), (7, 768, 768)])),
  (6, ([8], [(0, 0, 0), (1, 0, 0), (2, 0, 0), (3, 0, 0), (4, 0, 0), (5, 0, 0), (6, 0, 0), (7, 0, 0), (8, 0, 256), (9, 256, 256), (7, 256, 256)])),
  (10, ([6], [(0, 0, 0), (1, 0, 0), (2, 0, 0), (3, 0, 0), (4, 0, 0), (5, 0, 0), (6, 0, 64), (7, 64, 64)])),
  (11, ([], [(0, 0, 0), (1, 0, 0), (2, 0, 0), (3, 0, 0), (4, 0, 0), (5, 0, 0), (6, 0, 0), (7, 0, 0), (8, 0, 0), (9, 0, 0), (10, 0, 0), (11, 0, 0), (12, 0, 0)]))]
def dr131 : List (Nat × (List Nat × List (Nat × Nat × Nat))) := []
def dr132 : List (Nat × (List Nat × List (Nat × Nat × Nat))) := []
def dr133 : List (Nat × (List Nat × List (Nat × Nat × Nat))) := []
def dr134 : List (Nat × (List Nat × List (Nat × Nat × Nat))) := []
def dr135 : List (Nat × (List Nat × List (Nat × Nat × Nat))) := []
def dr136 : List (Nat × (List Nat × List (Nat × Nat × Nat))) := [(5, ([9, 10], [(0, 0, 0), (1, 0, 0), (2, 0, 0), (3, 0, 0), (4, 0, 0), (5, 0, 0), (6, 0, 0), (7, 0, 0), (8, 0, 0), (9, 0, 512), (10, 512, 1536), (11, 1536, 1536), (0, 512, 512), (1, 512, 512), (2, 512, 512), (3, 512, 512), (4, 512, 512), (5, 512, 512), (6, 512, 512), (7, 512, 512), (8, 512, 512), (8, 1536, 1536)])),
  (7, ([7], [(0, 0, 0), (1, 0, 0), (2, 0, 0), (3, 0, 0), (4, 0, 0), (5, 0, 0), (6, 0, 0), (7, 0, 128)])),
  (8, ([9, 10], [(0, 0, 0), (1, 0, 0), (2, 0, 0), (3, 0, 0), (4, 0, 0), (5, 0, 0), (6, 0, 0), (7, 0, 0), (8, 0, 0), (9, 0, 512), (10, 512, 1536), (11, 1536, 1536), (0, 512, 512), (1, 512, 512), (2, 512, 512), (3, 512, 512), (4, 512, 512), (5, 512, 512), (6, 512, 512), (7, 512, 512), (8, 512, 512), (8, 1536, 1536)])),
  (10, ([6], [(0, 0, 0), (1, 0, 0), (2, 0, 0), (3, 0, 0), (4, 0, 0), (5, 0, 0), (6, 0, 64)]))]
def dr137 : List (Nat × (List Nat × List (Nat × Nat × Nat))) := [(1, ([4, 5], [(0, 0, 0), (1, 0, 0), (2, 0, 0), (3, 0, 0), (4, 0, 16), (5, 16, 48)]))]
def dr138 : List (Nat × (List Nat × List (Nat × Nat × Nat))) := []
def dr139 : List (Nat × (List Nat × List (Nat × Nat × Nat))) := [(4, ([], [(0, 0, 0), (1, 0, 0), (2, 0, 0), (3, 0, 0), (4, 0, 0), (5, 0, 0), (6, 0, 0), (7, 0, 0), (8, 0, 0), (9, 0, 0), (10, 0, 0), (11, 0, 0)]))]
def dr140 : List (Nat × (List Nat × List (Nat × Nat × Nat))) := []
def dr141 : List (Nat × (List Nat × List (Nat × Nat × Nat))) := []
def dr142 : List (Nat × (List Nat × List (Nat × Nat × Nat))) := []
def dr143 : List (Nat × (List Nat × List (Nat × Nat × Nat))) := [(1, ([], [(0, 0, 0), (1, 0, 0), (2, 0, 0), (3, 0, 0), (4, 0, 0), (5, 0, 0), (6, 0, 0), (7, 0, 0), (8, 0, 0), (9, 0, 0), (10, 0, 0), (11, 0, 0), (12, 0, 0), (13, 0, 0), (14, 0, 0), (15, 0, 0), (16, 0, 0), (17, 0, 0), (18, 0, 0), (19, 0, 0), (20, 0, 0), (21, 0, 0), (22, 0, 0), (23, 0, 0), (24, 0, 0), (25, 0, 0)])),
  (2, ([], [(0, 0, 0), (1, 0, 0), (2, 0, 0), (3, 0, 0), (4, 0, 0), (5, 0, 0), (6, 0, 0), (7, 0, 0), (8, 0, 0), (9, 0, 0)]))]
def dr144 : List (Nat × (List Nat × List (Nat × Nat × Nat))) := []
def dr145 : List (Nat × (List Nat × List (Nat × Nat × Nat))) := []
def dr146 : List (Nat × (List Nat × List (Nat × Nat × Nat))) := [(11, ([8], [(0, 0, 0), (1, 0, 0), (2, 0, 0), (3, 0, 0), (4, 0, 0), (5, 0, 0), (6, 0, 0), (7, 0, 0), (8, 0, 256)])),
  (15, ([8], [(0, 0, 0), (1, 0, 0), (2, 0, 0), (3, 0, 0), (4, 0, 0), (5, 0, 0), (6, 0, 0), (7, 0, 0), (8, 0, 256)]))]
def dr147 : List (Nat × (List Nat × List (Nat × Nat × Nat))) := [(11, ([8], [(0, 0, 0), (1, 0, 0), (2, 0, 0), (3, 0, 0), (4, 0, 0), (5, 0, 0), (6, 0, 0), (7, 0, 0), (8, 0, 256)])),
  (15, ([8], [(0, 0, 0), (1, 0, 0), (2, 0, 0), (3, 0, 0), (4, 0, 0), (5, 0, 0), (6, 0, 0), (7, 0, 0), (8, 0, 256)]))]
def dr148 : List (Nat × (List Nat × List (Nat × Nat × Nat))) := []
def dr149 : List (Nat × (List Nat × List (Nat × Nat × Nat))) := []
def dr150 : List (Nat × (List Nat × List (Nat × Nat × Nat))) := []
def dr151 : List (Nat × (List Nat × List (Nat × Nat × Nat))) := []
def dr152 : List (Nat × (List Nat × List (Nat × Nat × Nat))) := []
def dr153 : List (Nat × (List Nat × List (Nat × Nat × Nat))) := []
def dr154 : List (Nat × (List Nat × List (Nat × Nat × Nat))) := []
def dr155 : List (Nat × (List Nat × List (Nat × Nat × Nat))) := [(0, ([], [(0, 0, 0), (1, 0, 0), (2, 0, 0), (3, 0, 0), (4, 0, 0), (5, 0, 0), (6, 0, 0), (7, 0, 0), (8, 0, 0), (9, 0, 0), (10, 0, 0), (11, 0, 0), (12, 0, 0), (13, 0, 0), (14, 0, 0), (15, 0, 0)]))]
def dr156 : List (Nat × (List Nat × List (Nat × Nat × Nat))) := [(4, ([], [(0, 0, 0), (1, 0, 0), (2, 0, 0), (3, 0, 0), (4, 0, 0), (5, 0, 0), (6, 0, 0), (7, 0, 0), (8, 0, 0), (9, 0, 0), (10, 0, 0), (11, 0, 0), (12, 0, 0), (13, 0, 0), (14, 0, 0), (15, 0, 0), (16, 0, 0)])),
  (6, ([15, 17], [(0, 0, 0), (1, 0, 0), (2, 0, 0), (3, 0, 0), (4, 0, 0), (5, 0, 0), (6, 0, 0), (7, 0, 0), (8, 0, 0), (9, 0, 0), (10, 0, 0), (11, 0, 0), (12, 0, 0), (13, 0, 0), (14, 0, 0), (15, 0, 32768), (16, 32768, 32768), (17, 32768, 163840), (2, 32768, 32768), (3, 32768, 32768), (4, 32768, 32768)]))]
def dr157 : List (Nat × (List Nat × List (Nat × Nat × Nat))) := [(10, ([17, 19], [(0, 0, 0), (1, 0, 0), (2, 0, 0), (3, 0, 0), (4, 0, 0), (5, 0, 0), (6, 0, 0), (7, 0, 0), (8, 0, 0), (9, 0, 0), (10, 0, 0), (11, 0, 0), (12, 0, 0), (13, 0, 0), (14, 0, 0), (15, 0, 0), (16, 0, 0), (17, 0, 131072), (18, 131072, 131072), (19, 131072, 655360), (2, 131072, 131072), (3, 131072, 131072), (4, 131072, 131072), (5, 131072, 131072)]))]
def dr158 : List (Nat × (List Nat × List (Nat × Nat × Nat))) := [(10, ([17, 19], [(0, 0, 0), (1, 0, 0), (2, 0, 0), (3, 0, 0), (4, 0, 0), (5, 0, 0), (6, 0, 0), (7, 0, 0), (8, 0, 0), (9, 0, 0), (10, 0, 0), (11, 0, 0), (12, 0, 0), (13, 0, 0), (14, 0, 0), (15, 0, 0), (16, 0, 0), (17, 0, 131072), (18, 131072, 131072), (19, 131072, 655360), (2, 131072, 131072), (3, 131072, 131072), (4, 131072, 131072), (5, 131072, 131072)]))]
def dr159 : List (Nat × (List Nat × List (Nat × Nat × Nat))) := []
def dr160 : List (Nat × (List Nat × List (Nat × Nat × Nat))) := [(3, ([13, 15], [(0, 0, 0), (1, 0, 0), (2, 0, 0), (3, 0, 0), (4, 0, 0), (5, 0, 0), (6, 0, 0), (7, 0, 0), (8, 0, 0), (9, 0, 0), (10, 0, 0), (11, 0, 0), (12, 0, 0), (13, 0, 8192), (14, 8192, 8192), (15, 8192, 40960), (2, 8192, 8192), (3, 8192, 8192)]))]
def dr161 : List (Nat × (List Nat × List (Nat × Nat × Nat))) := [(5, ([], [(0, 0, 0), (1, 0, 0), (2, 0, 0), (3, 0, 0), (4, 0, 0), (5, 0, 0), (6, 0, 0), (7, 0, 0), (8, 0, 0), (9, 0, 0), (10, 0, 0), (11, 0, 0), (12, 0, 0), (13, 0, 0), (14, 0, 0), (15, 0, 0), (16, 0, 0), (17, 0, 0)])),
  (11, ([15, 17], [(0, 0, 0), (1, 0, 0), (2, 0, 0), (3, 0, 0), (4, 0, 0), (5, 0, 0), (6, 0, 0), (7, 0, 0), (8, 0, 0), (9, 0, 0), (10, 0, 0), (11, 0, 0), (12, 0, 0), (13, 0, 0), (14, 0, 0), (15, 0, 32768), (16, 32768, 32768), (17, 32768, 163840), (2, 32768, 32768), (3, 32768, 32768), (4, 32768, 32768)])),
  (16, ([], [(0, 0, 0), (1, 0, 0), (2, 0, 0), (3, 0, 0), (4, 0, 0), (5, 0, 0), (6, 0, 0), (7, 0, 0), (8, 0, 0), (9, 0, 0), (10, 0, 0), (11, 0, 0), (12, 0, 0)])),
  (17, ([15, 17], [(0, 0, 0), (1, 0, 0), (2, 0, 0), (3, 0, 0), (4, 0, 0), (5, 0, 0), (6, 0, 0), (7, 0, 0), (8, 0, 0), (9, 0, 0), (10, 0, 0), (11, 0, 0), (12, 0, 0), (13, 0, 0), (14, 0, 0), (15, 0, 32768), (16, 32768, 32768), (17, 32768, 163840), (2, 32768, 32768), (3, 32768, 32768), (4, 32768, 32768)])),
  (22, ([], [(0, 0, 0), (1, 0, 0), (2, 0, 0), (3, 0, 0), (4, 0, 0), (5, 0, 0), (6, 0, 0), (7, 0, 0), (8, 0, 0), (9, 0, 0), (10, 0, 0), (11, 0, 0), (12, 0, 0)])),
  (23, ([15, 17], [(0, 0, 0), (1, 0, 0), (2, 0, 0), (3, 0, 0), (4, 0, 0), (5, 0, 0), (6, 0, 0), (7, 0, 0), (8, 0, 0), (9, 0, 0), (10, 0, 0), (11, 0, 0), (12, 0, 0), (13, 0, 0), (14, 0, 0), (15, 0, 32768), (16, 32768, 32768), (17, 32768, 163840), (2, 32768, 32768), (3, 32768, 32768), (4, 32768, 32768)]))]
def dr162 : List (Nat × (List Nat × List (Nat × Nat × Nat))) := [(1, ([13, 15], [(0, 0, 0), (1, 0, 0), (2, 0, 0), (3, 0, 0), (4, 0, 0), (5, 0, 0), (6, 0, 0), (7, 0, 0), (8, 0, 0), (9, 0, 0), (10, 0, 0), (11, 0, 0), (12, 0, 0), (13, 0, 8192), (14, 8192, 8192), (15, 8192, 40960), (2, 8192, 8192), (3, 8192, 8192)])),
  (3, ([], [(0, 0, 0), (1, 0, 0), (2, 0, 0), (3, 0, 0), (4, 0, 0), (5, 0, 0), (6, 0, 0), (7, 0, 0), (8, 0, 0), (9, 0, 0), (10, 0, 0), (11, 0, 0), (12, 0, 0), (13, 0, 0), (14, 0, 0), (15, 0, 0), (16, 0, 0)])),
  (5, ([], [(0, 0, 0), (1, 0, 0), (2, 0, 0), (3, 0, 0), (4, 0, 0), (5, 0, 0), (6, 0, 0), (7, 0, 0), (8, 0, 0), (9, 0, 0), (10, 0, 0), (11, 0, 0), (12, 0, 0), (13, 0, 0), (14, 0, 0), (15, 0, 0)])),
  (8, ([13, 15], [(0, 0, 0), (1, 0, 0), (2, 0, 0), (3, 0, 0), (4, 0, 0), (5, 0, 0), (6, 0, 0), (7, 0, 0), (8, 0, 0), (9, 0, 0), (10, 0, 0), (11, 0, 0), (12, 0, 0), (13, 0, 8192), (14, 8192, 8192), (15, 8192, 40960), (2, 8192, 8192), (3, 8192, 8192)]))]
def dr163 : List (Nat × (List Nat × List (Nat × Nat × Nat))) := [(1, ([13, 15], [(0, 0, 0), (1, 0, 0), (2, 0, 0), (3, 0, 0), (4, 0, 0), (5, 0, 0), (6, 0, 0), (7, 0, 0), (8, 0, 0), (9, 0, 0), (10, 0, 0), (11, 0, 0), (12, 0, 0), (13, 0, 8192), (14, 8192, 8192), (15, 8192, 40960), (2, 8192, 8192), (3, 8192, 8192)])),
  (3, ([], [(0, 0, 0), (1, 0, 0), (2, 0, 0), (3, 0, 0), (4, 0, 0), (5, 0, 0), (6, 0, 0), (7, 0, 0), (8, 0, 0), (9, 0, 0), (10, 0, 0), (11, 0, 0), (12, 0, 0), (13, 0, 0), (14, 0, 0), (15, 0, 0)])),
  (5, ([], [(0, 0, 0), (1, 0, 0), (2, 0, 0), (3, 0, 0), (4, 0, 0), (5, 0, 0), (6, 0, 0), (7, 0, 0), (8, 0, 0), (9, 0, 0), (10, 0, 0), (11, 0, 0), (12, 0, 0), (13, 0, 0), (14, 0, 0), (15, 0, 0), (16, 0, 0)])),
  (8, ([13, 15], [(0, 0, 0), (1, 0, 0), (2, 0, 0), (3, 0, 0), (4, 0, 0), (5, 0, 0), (6, 0, 0), (7, 0, 0), (8, 0, 0), (9, 0, 0), (10, 0, 0), (11, 0, 0), (12, 0, 0), (13, 0, 8192), (14, 8192, 8192), (15, 8192, 40960), (2, 8192, 8192), (3, 8192, 8192)])),
  (10, ([13, 15], [(0, 0, 0), (1, 0, 0), (2, 0, 0), (3, 0, 0), (4, 0, 0), (5, 0, 0), (6, 0, 0), (7, 0, 0), (8, 0, 0), (9, 0, 0), (10, 0, 0), (11, 0, 0), (12, 0, 0), (13, 0, 8192), (14, 8192, 8192), (15, 8192, 40960), (2, 8192, 8192), (3, 8192, 8192)])),
  (13, ([], [(0, 0, 0), (1, 0, 0), (2, 0, 0), (3, 0, 0), (4, 0, 0), (5, 0, 0), (6, 0, 0), (7, 0, 0), (8, 0, 0), (9, 0, 0), (10, 0, 0), (11, 0, 0), (12, 0, 0), (13, 0, 0), (14, 0, 0), (15, 0, 0)])),
  (15, ([], [(0, 0, 0), (1, 0, 0), (2, 0, 0), (3, 0, 0), (4, 0, 0), (5, 0, 0), (6, 0, 0), (7, 0, 0), (8, 0, 0), (9, 0, 0), (10, 0, 0), (11, 0, 0), (12, 0, 0), (13, 0, 0), (14, 0, 0), (15, 0, 0), (16, 0, 0)])),
  (18, ([13, 15], [(0, 0, 0), (1, 0, 0), (2, 0, 0), (3, 0, 0), (4, 0, 0), (5, 0, 0), (6, 0, 0), (7, 0, 0), (8, 0, 0), (9, 0, 0), (10, 0, 0), (11, 0, 0), (12, 0, 0), (13, 0, 8192), (14, 8192, 8192), (15, 8192, 40960), (2, 8192, 8192), (3, 8192, 8192)])),
  (21, ([13, 15], [(0, 0, 0), (1, 0, 0), (2, 0, 0), (3, 0, 0), (4, 0, 0), (5, 0, 0), (6, 0, 0), (7, 0, 0), (8, 0, 0), (9, 0, 0), (10, 0, 0), (11, 0, 0), (12, 0, 0), (13, 0, 8192), (14, 8192, 8192), (15, 8192, 40960), (2, 8192, 8192), (3, 8192, 8192)]))]
def dr164 : List (Nat × (List Nat × List (Nat × Nat × Nat))) := []
def dr165 : List (Nat × (List Nat × List (Nat × Nat × Nat))) := []
def dr166 : List (Nat × (List Nat × List (Nat × Nat × Nat))) := []
def dr167 : List (Nat × (List Nat × List (Nat × Nat × Nat))) := []
def dr168 : List (Nat × (List Nat × List (Nat × Nat × Nat))) := []
def dr169 : List (Nat × (List Nat × List (Nat × Nat × Nat))) := []
def dr170 : List (Nat × (List Nat × List (Nat × Nat × Nat))) := [(6, ([], [(0, 0, 0), (1, 0, 0), (2, 0, 0), (3, 0, 0), (4, 0, 0), (5, 0, 0), (6, 0, 0), (7, 0, 0), (8, 0, 0), (9, 0, 0)])),
  (11, ([], [(0, 0, 0), (1, 0, 0), (2, 0, 0), (3, 0, 0), (4, 0, 0), (5, 0, 0), (6, 0, 0), (7, 0, 0), (8, 0, 0), (9, 0, 0)]))]
def dr171 : List (Nat × (List Nat × List (Nat × Nat × Nat))) := []
def dr172 : List (Nat × (List Nat × List (Nat × Nat × Nat))) := [(12, ([22], [(0, 0, 0), (1, 0, 0), (2, 0, 0), (3, 0, 0), (4, 0, 0), (5, 0, 0), (6, 0, 0), (7, 0, 0), (8, 0, 0), (9, 0, 0), (10, 0, 0), (11, 0, 0), (12, 0, 0), (13, 0, 0), (14, 0, 0), (15, 0, 0), (16, 0, 0), (17, 0, 0), (18, 0, 0), (19, 0, 0), (20, 0, 0), (21, 0, 0), (22, 0, 4194304)])),
  (9, ([53], [(0, 0, 0), (1, 0, 0), (2, 0, 0), (3, 0, 0), (4, 0, 0), (5, 0, 0), (6, 0, 0), (7, 0, 0), (8, 0, 0), (9, 0, 0), (10, 0, 0), (11, 0, 0), (12, 0, 0), (13, 0, 0), (14, 0, 0), (15, 0, 0), (16, 0, 0), (17, 0, 0), (18, 0, 0), (19, 0, 0), (20, 0, 0), (21, 0, 0), (22, 0, 0), (23, 0, 0), (24, 0, 0), (25, 0, 0), (26, 0, 0), (27, 0, 0), (28, 0, 0), (29, 0, 0), (30, 0, 0), (31, 0, 0), (32, 0, 0), (33, 0, 0), (34, 0, 0), (35, 0, 0), (36, 0, 0), (37, 0, 0), (38, 0, 0), (39, 0, 0), (40, 0, 0), (41, 0, 0), (42, 0, 0), (43, 0, 0), (44, 0, 0), (45, 0, 0), (46, 0, 0), (47, 0, 0), (48, 0, 0), (49, 0, 0), (50, 0, 0), (51, 0, 0), (52, 0, 0), (53, 0, 9007199254740992)]))]
def dr173 : List (Nat × (List Nat × List (Nat × Nat × Nat))) := []
def dr174 : List (Nat × (List Nat × List (Nat × Nat × Nat))) := []
def dr175 : List (Nat × (List Nat × List (Nat × Nat × Nat))) := [(5, ([10, 11], [(0, 0, 0), (1, 0, 0), (2, 0, 0), (3, 0, 0), (4, 0, 0), (5, 0, 0), (6, 0, 0), (7, 0, 0), (8, 0, 0), (9, 0, 0), (10, 0, 1024), (11, 1024, 3072), (12, 3072, 3072), (0, 1024, 1024), (1, 1024, 1024), (2, 1024, 1024), (3, 1024, 1024), (4, 1024, 1024), (5, 1024, 1024), (6, 1024, 1024), (7, 1024, 1024), (8, 1024, 1024), (9, 1024, 1024), (9, 3072, 3072)])),
  (7, ([], [(0, 0, 0), (1, 0, 0), (2, 0, 0), (3, 0, 0), (4, 0, 0), (5, 0, 0), (6, 0, 0), (7, 0, 0), (8, 0, 0), (9, 0, 0)])),
  (12, ([10, 11], [(0, 0, 0), (1, 0, 0), (2, 0, 0), (3, 0, 0), (4, 0, 0), (5, 0, 0), (6, 0, 0), (7, 0, 0), (8, 0, 0), (9, 0, 0), (10, 0, 1024), (11, 1024, 3072), (12, 3072, 3072), (0, 1024, 1024), (1, 1024, 1024), (2, 1024, 1024), (3, 1024, 1024), (4, 1024, 1024), (5, 1024, 1024), (6, 1024, 1024), (7, 1024, 1024), (8, 1024, 1024), (9, 1024, 1024), (9, 3072, 3072)]))]
def dr176 : List (Nat × (List Nat × List (Nat × Nat × Nat))) := [(13, ([], [(0, 0, 0), (1, 0, 0), (2, 0, 0), (3, 0, 0), (4, 0, 0), (5, 0, 0), (6, 0, 0), (7, 0, 0), (8, 0, 0), (9, 0, 0), (10, 0, 0), (11, 0, 0), (12, 0, 0), (13, 0, 0)])),
  (17, ([], [(0, 0, 0), (1, 0, 0), (2, 0, 0), (3, 0, 0), (4, 0, 0), (5, 0, 0), (6, 0, 0), (7, 0, 0), (8, 0, 0), (9, 0, 0), (10, 0, 0), (11, 0, 0), (12, 0, 0), (13, 0, 0), (14, 0, 0), (15, 0, 0), (16, 0, 0), (17, 0, 0), (18, 0, 0), (19, 0, 0), (20, 0, 0), (21, 0, 0)]))]
def dr177 : List (Nat × (List Nat × List (Nat × Nat × Nat))) := []
def dr178 : List (Nat × (List Nat × List (Nat × Nat × Nat))) := [(3, ([], [(0, 0, 0), (1, 0, 0), (2, 0, 0), (3, 0, 0), (4, 0, 0), (5, 0, 0), (6, 0, 0), (7, 0, 0), (8, 0, 0), (9, 0, 0), (10, 0, 0)]))]
def dr179 : List (Nat × (List Nat × List (Nat × Nat × Nat))) := [(6, ([], [(0, 0, 0), (1, 0, 0), (2, 0, 0), (3, 0, 0), (4, 0, 0), (5, 0, 0), (6, 0, 0), (7, 0, 0), (8, 0, 0)]))]
def dr180 : List (Nat × (List Nat × List (Nat × Nat × Nat))) := []
def dr181 : List (Nat × (List Nat × List (Nat × Nat × Nat))) := []
def dr182 : List (Nat × (List Nat × List (Nat × Nat × Nat))) := [(6, ([], [(0, 0, 0), (1, 0, 0), (2, 0, 0), (3, 0, 0), (4, 0, 0), (5, 0, 0), (6, 0, 0), (7, 0, 0), (8, 0, 0)]))]
def dr183 : List (Nat × (List Nat × List (Nat × Nat × Nat))) := []
def dr184 : List (Nat × (List Nat × List (Nat × Nat × Nat))) := []
def dr185 : List (Nat × (List Nat × List (Nat × Nat × Nat))) := []
def dr186 : List (Nat × (List Nat × List (Nat × Nat × Nat))) := [(9, ([], [(0, 0, 0), (1, 0, 0), (2, 0, 0), (3, 0, 0), (4, 0, 0), (5, 0, 0), (6, 0, 0), (7, 0, 0), (8, 0, 0), (9, 0, 0), (10, 0, 0), (11, 0, 0), (12, 0, 0), (13, 0, 0), (14, 0, 0), (15, 0, 0), (16, 0, 0), (17, 0, 0), (18, 0, 0), (19, 0, 0), (20, 0, 0), (21, 0, 0), (22, 0, 0), (23, 0, 0), (24, 0, 0), (25, 0, 0), (26, 0, 0)])),
  (13, ([], [(0, 0, 0), (1, 0, 0), (2, 0, 0), (3, 0, 0), (4, 0, 0), (5, 0, 0), (6, 0, 0), (7, 0, 0), (8, 0, 0), (9, 0, 0), (10, 0, 0), (11, 0, 0), (12, 0, 0), (13, 0, 0)])),
  (16, ([5, 7, 11], [(0, 0, 0), (1, 0, 0), (2, 0, 0), (3, 0, 0), (4, 0, 0), (5, 0, 32), (6, 32, 32), (7, 32, 160), (8, 160, 160), (9, 160, 160), (10, 160, 160), (11, 160, 2208), (12, 2208, 2208), (8, 0, 0), (9, 0, 0), (10, 0, 0), (0, 32, 32), (8, 32, 32), (9, 32, 32), (10, 32, 32)]))]
def dr187 : List (Nat × (List Nat × List (Nat × Nat × Nat))) := [(4, ([9, 10], [(0, 0, 0), (1, 0, 0), (2, 0, 0), (3, 0, 0), (4, 0, 0), (5, 0, 0), (6, 0, 0), (7, 0, 0), (8, 0, 0), (9, 0, 512), (10, 512, 1536), (11, 1536, 1536), (0, 512, 512), (1, 512, 512), (2, 512, 512), (3, 512, 512), (4, 512, 512), (5, 512, 512), (6, 512, 512), (7, 512, 512), (8, 512, 512), (8, 1536, 1536)]))]
def dr188 : List (Nat × (List Nat × List (Nat × Nat × Nat))) := [(3, ([8, 9], [(0, 0, 0), (1, 0, 0), (2, 0, 0), (3, 0, 0), (4, 0, 0), (5, 0, 0), (6, 0, 0), (7, 0, 0), (8, 0, 256), (9, 256, 768), (10, 768, 768), (0, 256, 256), (1, 256, 256), (2, 256, 256), (3, 256, 256), (4, 256, 256), (5, 256, 256), (6, 256, 256), (7, 256, 256), (7, 768, 768)])),
  (4, ([10], [(0, 0, 0), (1, 0, 0), (2, 0, 0), (3, 0, 0), (4, 0, 0), (5, 0, 0), (6, 0, 0), (7, 0, 0), (8, 0, 0), (9, 0, 0), (10, 0, 1024)]))]
def dr189 : List (Nat × (List Nat × List (Nat × Nat × Nat))) := [(1, ([8, 9], [(0, 0, 0), (1, 0, 0), (2, 0, 0), (3, 0, 0), (4, 0, 0), (5, 0, 0), (6, 0, 0), (7, 0, 0), (8, 0, 256), (9, 256, 768), (10, 768, 768), (0, 256, 256), (1, 256, 256), (2, 256, 256), (3, 256, 256), (4, 256, 256), (5, 256, 256), (6, 256, 256), (7, 256, 256), (7, 768, 768)])),
  (5, ([5], [(0, 0, 0), (1, 0, 0), (2, 0, 0), (3, 0, 0), (4, 0, 0), (5, 0, 32)])),
  (6, ([9], [(0, 0, 0), (1, 0, 0), (2, 0, 0), (3, 0, 0), (4, 0, 0), (5, 0, 0), (6, 0, 0), (7, 0, 0), (8, 0, 0), (9, 0, 512)]))]
def dr190 : List (Nat × (List Nat × List (Nat × Nat × Nat))) := []
def dr191 : List (Nat × (List Nat × List (Nat × Nat × Nat))) := [(6, ([], [(0, 0, 0), (1, 0, 0), (2, 0, 0), (3, 0, 0), (4, 0, 0), (5, 0, 0), (6, 0, 0), (7, 0, 0), (8, 0, 0)]))]
def dr192 : List (Nat × (List Nat × List (Nat × Nat × Nat))) := []
def dr193 : List (Nat × (List Nat × List (Nat × Nat × Nat))) := []
def dr194 : List (Nat × (List Nat × List (Nat × Nat × Nat))) := []
def dr195 : List (Nat × (List Nat × List (Nat × Nat × Nat))) := []
def dr197 : List (Nat × (List Nat × List (Nat × Nat × Nat))) := []
def dr199 : List (Nat × (List Nat × List (Nat × Nat × Nat))) := []
def dr200 : List (Nat × (List Nat × List (Nat × Nat × Nat))) := []
def dr201 : List (Nat × (List Nat × List (Nat × Nat × Nat))) := []
def dr202 : List (Nat × (List Nat × List (Nat × Nat × Nat))) := []
def dr203 : List (Nat × (List Nat × List (Nat × Nat × Nat))) := []
def dr205 : List (Nat × (List Nat × List (Nat × Nat × Nat))) := []
def dr208 : List (Nat × (List Nat × List (Nat × Nat × Nat))) := [(3, ([], [(0, 0, 0), (1, 0, 0), (2, 0, 0), (3, 0, 0), (4, 0, 0), (5, 0, 0), (6, 0, 0), (7, 0, 0), (8, 0, 0), (9, 0, 0), (10, 0, 0), (11, 0, 0), (12, 0, 0), (13, 0, 0), (14, 0, 0), (15, 0, 0), (16, 0, 0), (17, 0, 0), (18, 0, 0), (19, 0, 0), (20, 0, 0), (21, 0, 0)])),
  (5, ([], [(0, 0, 0), (1, 0, 0), (2, 0, 0), (3, 0, 0), (4, 0, 0), (5, 0, 0), (6, 0, 0), (7, 0, 0), (8, 0, 0), (9, 0, 0), (10, 0, 0), (11, 0, 0), (12, 0, 0), (13, 0, 0), (14, 0, 0), (15, 0, 0)])),
  (6, ([21, 23], [(0, 0, 0), (1, 0, 0), (2, 0, 0), (3, 0, 0), (4, 0, 0), (5, 0, 0), (6, 0, 0), (7, 0, 0), (8, 0, 0), (9, 0, 0), (10, 0, 0), (11, 0, 0), (12, 0, 0), (13, 0, 0), (14, 0, 0), (15, 0, 0), (16, 0, 0), (17, 0, 0), (18, 0, 0), (19, 0, 0), (20, 0, 0), (21, 0, 2097152), (22, 2097152, 2097152), (23, 2097152, 10485760), (4, 2097152, 2097152), (5, 2097152, 2097152), (6, 2097152, 2097152), (7, 2097152, 2097152)]))]
def dr209 : List (Nat × (List Nat × List (Nat × Nat × Nat))) := []
def dr210 : List (Nat × (List Nat × List (Nat × Nat × Nat))) := [(1, ([9], [(0, 0, 0), (1, 0, 0), (2, 0, 0), (3, 0, 0), (4, 0, 0), (5, 0, 0), (6, 0, 0), (7, 0, 0), (8, 0, 0), (9, 0, 512)])),
  (2, ([9], [(0, 0, 0), (1, 0, 0), (2, 0, 0), (3, 0, 0), (4, 0, 0), (5, 0, 0), (6, 0, 0), (7, 0, 0), (8, 0, 0), (9, 0, 512)])),
  (3, ([9], [(0, 0, 0), (1, 0, 0), (2, 0, 0), (3, 0, 0), (4, 0, 0), (5, 0, 0), (6, 0, 0), (7, 0, 0), (8, 0, 0), (9, 0, 512)]))]
def dr211 : List (Nat × (List Nat × List (Nat × Nat × Nat))) := []
def dr212 : List (Nat × (List Nat × List (Nat × Nat × Nat))) := []
def dr213 : List (Nat × (List Nat × List (Nat × Nat × Nat))) := []
def dr214 : List (Nat × (List Nat × List (Nat × Nat × Nat))) := [(17, ([], [(0, 0, 0), (1, 0, 0), (2, 0, 0), (3, 0, 0), (4, 0, 0), (5, 0, 0), (6, 0, 0), (7, 0, 0), (8, 0, 0), (9, 0, 0), (10, 0, 0), (11, 0, 0), (12, 0, 0), (13, 0, 0), (14, 0, 0)]))]
def dr215 : List (Nat × (List Nat × List (Nat × Nat × Nat))) := []
def dr216 : List (Nat × (List Nat × List (Nat × Nat × Nat))) := []
def dr217 : List (Nat × (List Nat × List (Nat × Nat × Nat))) := []
def dr218 : List (Nat × (List Nat × List (Nat × Nat × Nat))) := [(4, ([], [(0, 0, 0), (1, 0, 0), (2, 0, 0), (3, 0, 0), (4, 0, 0), (5, 0, 0), (6, 0, 0), (7, 0, 0), (8, 0, 0), (9, 0, 0), (10, 0, 0), (11, 0, 0), (12, 0, 0), (13, 0, 0), (14, 0, 0), (15, 0, 0), (16, 0, 0), (17, 0, 0), (18, 0, 0), (19, 0, 0), (20, 0, 0), (21, 0, 0), (22, 0, 0), (23, 0, 0), (24, 0, 0), (25, 0, 0), (26, 0, 0), (27, 0, 0), (28, 0, 0), (29, 0, 0)]))]
def dr219 : List (Nat × (List Nat × List (Nat × Nat × Nat))) := [(4, ([], [(0, 0, 0), (1, 0, 0), (2, 0, 0), (3, 0, 0), (4, 0, 0), (5, 0, 0), (6, 0, 0), (7, 0, 0), (8, 0, 0)])),
  (5, ([], [(0, 0, 0), (1, 0, 0), (2, 0, 0), (3, 0, 0), (4, 0, 0), (5, 0, 0), (6, 0, 0), (7, 0, 0), (8, 0, 0), (9, 0, 0)]))]
def dr220 : List (Nat × (List Nat × List (Nat × Nat × Nat))) := []
def dr221 : List (Nat × (List Nat × List (Nat × Nat × Nat))) := []
def dr222 : List (Nat × (List Nat × List (Nat × Nat × Nat))) := []
def dr223 : List (Nat × (List Nat × List (Nat × Nat × Nat))) := []
def dr224 : List (Nat × (List Nat × List (Nat × Nat × Nat))) := []
def dr225 : List (Nat × (List Nat × List (Nat × Nat × Nat))) := []
def dr226 : List (Nat × (List Nat × List (Nat × Nat × Nat))) := []
def dr228 : List (Nat × (List Nat × List (Nat × Nat × Nat))) := []
def dr229 : List (Nat × (List Nat × List (Nat × Nat × Nat))) := []
def dr230 : List (Nat × (List Nat × List (Nat × Nat × Nat))) := [(1, ([], [(0, 0, 0), (1, 0, 0), (2, 0, 0), (3, 0, 0), (4, 0, 0), (5, 0, 0), (6, 0, 0), (7, 0, 0), (8, 0, 0), (9, 0, 0), (10, 0, 0)]))]
def dr231 : List (Nat × (List Nat × List (Nat × Nat × Nat))) := [(4, ([], [(0, 0, 0), (1, 0, 0), (2, 0, 0), (3, 0, 0), (4, 0, 0), (5, 0, 0), (6, 0, 0), (7, 0, 0), (8, 0, 0), (9, 0, 0), (10, 0, 0), (11, 0, 0), (12, 0, 0), (13, 0, 0), (14, 0, 0)])),
  (6, ([15, 17], [(0, 0, 0), (1, 0, 0), (2, 0, 0), (3, 0, 0), (4, 0, 0), (5, 0, 0), (6, 0, 0), (7, 0, 0), (8, 0, 0), (9, 0, 0), (10, 0, 0), (11, 0, 0), (12, 0, 0), (13, 0, 0), (14, 0, 0), (15, 0, 32768), (16, 32768, 32768), (17, 32768, 163840), (2, 32768, 32768), (3, 32768, 32768), (4, 32768, 32768)]))]
def dr232 : List (Nat × (List Nat × List (Nat × Nat × Nat))) := [(10, ([17, 19], [(0, 0, 0), (1, 0, 0), (2, 0, 0), (3, 0, 0), (4, 0, 0), (5, 0, 0), (6, 0, 0), (7, 0, 0), (8, 0, 0), (9, 0, 0), (10, 0, 0), (11, 0, 0), (12, 0, 0), (13, 0, 0), (14, 0, 0), (15, 0, 0), (16, 0, 0), (17, 0, 131072), (18, 131072, 131072), (19, 131072, 655360), (2, 131072, 131072), (3, 131072, 131072), (4, 131072, 131072), (5, 131072, 131072)]))]
def dr233 : List (Nat × (List Nat × List (Nat × Nat × Nat))) := [(10, ([17, 19], [(0, 0, 0), (1, 0, 0), (2, 0, 0), (3, 0, 0), (4, 0, 0), (5, 0, 0), (6, 0, 0), (7, 0, 0), (8, 0, 0), (9, 0, 0), (10, 0, 0), (11, 0, 0), (12, 0, 0), (13, 0, 0), (14, 0, 0), (15, 0, 0), (16, 0, 0), (17, 0, 131072), (18, 131072, 131072), (19, 131072, 655360), (2, 131072, 131072), (3, 131072, 131072), (4, 131072, 131072), (5, 131072, 131072)]))]
def dr234 : List (Nat × (List Nat × List (Nat × Nat × Nat))) := []
def dr235 : List (Nat × (List Nat × List (Nat × Nat × Nat))) := [(3, ([13, 15], [(0, 0, 0), (1, 0, 0), (2, 0, 0), (3, 0, 0), (4, 0, 0), (5, 0, 0), (6, 0, 0), (7, 0, 0), (8, 0, 0), (9, 0, 0), (10, 0, 0), (11, 0, 0), (12, 0, 0), (13, 0, 8192), (14, 8192, 8192), (15, 8192, 40960), (2, 8192, 8192), (3, 8192, 8192)]))]
def dr236 : List (Nat × (List Nat × List (Nat × Nat × Nat))) := [(5, ([], [(0, 0, 0), (1, 0, 0), (2, 0, 0), (3, 0, 0), (4, 0, 0), (5, 0, 0), (6, 0, 0), (7, 0, 0), (8, 0, 0), (9, 0, 0), (10, 0, 0), (11, 0, 0), (12, 0, 0), (13, 0, 0), (14, 0, 0), (15, 0, 0)])),
  (11, ([15, 17], [(0, 0, 0), (1, 0, 0), (2, 0, 0), (3, 0, 0), (4, 0, 0), (5, 0, 0), (6, 0, 0), (7, 0, 0), (8, 0, 0), (9, 0, 0), (10, 0, 0), (11, 0, 0), (12, 0, 0), (13, 0, 0), (14, 0, 0), (15, 0, 32768), (16, 32768, 32768), (17, 32768, 163840), (2, 32768, 32768), (3, 32768, 32768), (4, 32768, 32768)])),
  (16, ([], [(0, 0, 0), (1, 0, 0), (2, 0, 0), (3, 0, 0), (4, 0, 0), (5, 0, 0), (6, 0, 0), (7, 0, 0), (8, 0, 0), (9, 0, 0), (10, 0, 0)])),
  (17, ([15, 17], [(0, 0, 0), (1, 0, 0), (2, 0, 0), (3, 0, 0), (4, 0, 0), (5, 0, 0), (6, 0, 0), (7, 0, 0), (8, 0, 0), (9, 0, 0), (10, 0, 0), (11, 0, 0), (12, 0, 0), (13, 0, 0), (14, 0, 0), (15, 0, 32768), (16, 32768, 32768), (17, 32768, 163840), (2, 32768, 32768), (3, 32768, 32768), (4, 32768, 32768)])),
  (22, ([], [(0, 0, 0), (1, 0, 0), (2, 0, 0), (3, 0, 0), (4, 0, 0), (5, 0, 0), (6, 0, 0), (7, 0, 0), (8, 0, 0), (9, 0, 0), (10, 0, 0)])),
  (23, ([15, 17], [(0, 0, 0), (1, 0, 0), (2, 0, 0), (3, 0, 0), (4, 0, 0), (5, 0, 0), (6, 0, 0), (7, 0, 0), (8, 0, 0), (9, 0, 0), (10, 0, 0), (11, 0, 0), (12, 0, 0), (13, 0, 0), (14, 0, 0), (15, 0, 32768), (16, 32768, 32768), (17, 32768, 163840), (2, 32768, 32768), (3, 32768, 32768), (4, 32768, 32768)]))]
def dr237 : List (Nat × (List Nat × List (Nat × Nat × Nat))) := []
def dr238 : List (Nat × (List Nat × List (Nat × Nat × Nat))) := [(1, ([13, 15], [(0, 0, 0), (1, 0, 0), (2, 0, 0), (3, 0, 0), (4, 0, 0), (5, 0, 0), (6, 0, 0), (7, 0, 0), (8, 0, 0), (9, 0, 0), (10, 0, 0), (11, 0, 0), (12, 0, 0), (13, 0, 8192), (14, 8192, 8192), (15, 8192, 40960), (2, 8192, 8192), (3, 8192, 8192)])),
  (3, ([], [(0, 0, 0), (1, 0, 0), (2, 0, 0), (3, 0, 0), (4, 0, 0), (5, 0, 0), (6, 0, 0), (7, 0, 0), (8, 0, 0), (9, 0, 0), (10, 0, 0), (11, 0, 0), (12, 0, 0), (13, 0, 0), (14, 0, 0)])),
  (5, ([], [(0, 0, 0), (1, 0, 0), (2, 0, 0), (3, 0, 0), (4, 0, 0), (5, 0, 0), (6, 0, 0), (7, 0, 0), (8, 0, 0), (9, 0, 0), (10, 0, 0), (11, 0, 0), (12, 0, 0), (13, 0, 0)])),
  (8, ([13, 15], [(0, 0, 0), (1, 0, 0), (2, 0, 0), (3, 0, 0), (4, 0, 0), (5, 0, 0), (6, 0, 0), (7, 0, 0), (8, 0, 0), (9, 0, 0), (10, 0, 0), (11, 0, 0), (12, 0, 0), (13, 0, 8192), (14, 8192, 8192), (15, 8192, 40960), (2, 8192, 8192), (3, 8192, 8192)]))]
def dr239 : List (Nat × (List Nat × List (Nat × Nat × Nat))) := [(1, ([13, 15], [(0, 0, 0), (1, 0, 0), (2, 0, 0), (3, 0, 0), (4, 0, 0), (5, 0, 0), (6, 0, 0), (7, 0, 0), (8, 0, 0), (9, 0, 0), (10, 0, 0), (11, 0, 0), (12, 0, 0), (13, 0, 8192), (14, 8192, 8192), (15, 8192, 40960), (2, 8192, 8192), (3, 8192, 8192)])),
  (3, ([], [(0, 0, 0), (1, 0, 0), (2, 0, 0), (3, 0, 0), (4, 0, 0), (5, 0, 0), (6, 0, 0), (7, 0, 0), (8, 0, 0), (9, 0, 0), (10, 0, 0), (11, 0, 0), (12, 0, 0), (13, 0, 0)])),
  (5, ([], [(0, 0, 0), (1, 0, 0), (2, 0, 0), (3, 0, 0), (4, 0, 0), (5, 0, 0), (6, 0, 0), (7, 0, 0), (8, 0, 0), (9, 0, 0), (10, 0, 0), (11, 0, 0), (12, 0, 0), (13, 0, 0), (14, 0, 0)])),
  (8, ([13, 15], [(0, 0, 0), (1, 0, 0), (2, 0, 0), (3, 0, 0), (4, 0, 0), (5, 0, 0), (6, 0, 0), (7, 0, 0), (8, 0, 0), (9, 0, 0), (10, 0, 0), (11, 0, 0), (12, 0, 0), (13, 0, 8192), (14, 8192, 8192), (15, 8192, 40960), (2, 8192, 8192), (3, 8192, 8192)])),
  (10, ([13, 15], [(0, 0, 0), (1, 0, 0), (2, 0, 0), (3, 0, 0), (4, 0, 0), (5, 0, 0), (6, 0, 0), (7, 0, 0), (8, 0, 0), (9, 0, 0), (10, 0, 0), (11, 0, 0), (12, 0, 0), (13, 0, 8192), (14, 8192, 8192), (15, 8192, 40960), (2, 8192, 8192), (3, 8192, 8192)])),
  (13, ([], [(0, 0, 0), (1, 0, 0), (2, 0, 0), (3, 0, 0), (4, 0, 0), (5, 0, 0), (6, 0, 0), (7, 0, 0), (8, 0, 0), (9, 0, 0), (10, 0, 0), (11, 0, 0), (12, 0, 0), (13, 0, 0)])),
  (15, ([], [(0, 0, 0), (1, 0, 0), (2, 0, 0), (3, 0, 0), (4, 0, 0), (5, 0, 0), (6, 0, 0), (7, 0, 0), (8, 0, 0), (9, 0, 0), (10, 0, 0), (11, 0, 0), (12, 0, 0), (13, 0, 0), (14, 0, 0)])),
  (18, ([13, 15], [(0, 0, 0), (1, 0, 0), (2, 0, 0), (3, 0, 0), (4, 0, 0), (5, 0, 0), (6, 0, 0), (7, 0, 0), (8, 0, 0), (9, 0, 0), (10, 0, 0), (11, 0, 0), (12, 0, 0), (13, 0, 8192), (14, 8192, 8192), (15, 8192, 40960), (2, 8192, 8192), (3, 8192, 8192)])),
  (21, ([13, 15], [(0, 0, 0), (1, 0, 0), (2, 0, 0), (3, 0, 0), (4, 0, 0), (5, 0, 0), (6, 0, 0), (7, 0, 0), (8, 0, 0), (9, 0, 0), (10, 0, 0), (11, 0, 0), (12, 0, 0), (13, 0, 8192), (14, 8192, 8192), (15, 8192, 40960), (2, 8192, 8192), (3, 8192, 8192)]))]
def dr240 : List (Nat × (List Nat × List (Nat × Nat × Nat))) := []
def dr241 : List (Nat × (List Nat × List (Nat × Nat × Nat))) := []
def dr242 : List (Nat × (List Nat × List (Nat × Nat × Nat))) := []
def dr243 : List (Nat × (List Nat × List (Nat × Nat × Nat))) := []
def dr244 : List (Nat × (List Nat × List (Nat × Nat × Nat))) := [(3, ([13, 15], [(0, 0, 0), (1, 0, 0), (2, 0, 0), (3, 0, 0), (4, 0, 0), (5, 0, 0), (6, 0, 0), (7, 0, 0), (8, 0, 0), (9, 0, 0), (10, 0, 0), (11, 0, 0), (12, 0, 0), (13, 0, 8192), (14, 8192, 8192), (15, 8192, 40960), (2, 8192, 8192), (3, 8192, 8192)]))]
def dr245 : List (Nat × (List Nat × List (Nat × Nat × Nat))) := [(3, ([13, 15], [(0, 0, 0), (1, 0, 0), (2, 0, 0), (3, 0, 0), (4, 0, 0), (5, 0, 0), (6, 0, 0), (7, 0, 0), (8, 0, 0), (9, 0, 0), (10, 0, 0), (11, 0, 0), (12, 0, 0), (13, 0, 8192), (14, 8192, 8192), (15, 8192, 40960), (2, 8192, 8192), (3, 8192, 8192)]))]
def dr247 : List (Nat × (List Nat × List (Nat × Nat × Nat))) := []
def dr248 : List (Nat × (List Nat × List (Nat × Nat × Nat))) := [(3, ([], [(0, 0, 0), (1, 0, 0), (2, 0, 0), (3, 0, 0), (4, 0, 0), (5, 0, 0), (6, 0, 0), (7, 0, 0), (8, 0, 0), (9, 0, 0), (10, 0, 0), (11, 0, 0), (12, 0, 0), (13, 0, 0), (14, 0, 0), (15, 0, 0), (16, 0, 0), (17, 0, 0), (18, 0, 0), (19, 0, 0)])),
  (5, ([], [(0, 0, 0), (1, 0, 0), (2, 0, 0), (3, 0, 0), (4, 0, 0), (5, 0, 0), (6, 0, 0), (7, 0, 0), (8, 0, 0), (9, 0, 0), (10, 0, 0), (11, 0, 0), (12, 0, 0), (13, 0, 0)])),
  (6, ([21, 23], [(0, 0, 0), (1, 0, 0), (2, 0, 0), (3, 0, 0), (4, 0, 0), (5, 0, 0), (6, 0, 0), (7, 0, 0), (8, 0, 0), (9, 0, 0), (10, 0, 0), (11, 0, 0), (12, 0, 0), (13, 0, 0), (14, 0, 0), (15, 0, 0), (16, 0, 0), (17, 0, 0), (18, 0, 0), (19, 0, 0), (20, 0, 0), (21, 0, 2097152), (22, 2097152, 2097152), (23, 2097152, 10485760), (4, 2097152, 2097152), (5, 2097152, 2097152), (6, 2097152, 2097152), (7, 2097152, 2097152)]))]
def dr249 : List (Nat × (List Nat × List (Nat × Nat × Nat))) := []
def dr250 : List (Nat × (List Nat × List (Nat × Nat × Nat))) := []
def dr251 : List (Nat × (List Nat × List (Nat × Nat × Nat))) := []
def dr252 : List (Nat × (List Nat × List (Nat × Nat × Nat))) := []
def dr253 : List (Nat × (List Nat × List (Nat × Nat × Nat))) := [(7, ([12, 14], [(0, 0, 0), (1, 0, 0), (2, 0, 0), (3, 0, 0), (4, 0, 0), (5, 0, 0), (6, 0, 0), (7, 0, 0), (8, 0, 0), (9, 0, 0), (10, 0, 0), (11, 0, 0), (12, 0, 4096), (13, 4096, 4096), (14, 4096, 20480), (3, 4096, 4096), (4, 4096, 4096), (5, 4096, 4096), (9, 4096, 4096), (10, 4096, 4096)])),
  (8, ([12, 14], [(0, 0, 0), (1, 0, 0), (2, 0, 0), (3, 0, 0), (4, 0, 0), (5, 0, 0), (6, 0, 0), (7, 0, 0), (8, 0, 0), (9, 0, 0), (10, 0, 0), (11, 0, 0), (12, 0, 4096), (13, 4096, 4096), (14, 4096, 20480), (3, 4096, 4096), (4, 4096, 4096), (5, 4096, 4096), (9, 4096, 4096), (10, 4096, 4096)])),
  (9, ([12, 14], [(0, 0, 0), (1, 0, 0), (2, 0, 0), (3, 0, 0), (4, 0, 0), (5, 0, 0), (6, 0, 0), (7, 0, 0), (8, 0, 0), (9, 0, 0), (10, 0, 0), (11, 0, 0), (12, 0, 4096), (13, 4096, 4096), (14, 4096, 20480), (3, 4096, 4096), (4, 4096, 4096), (5, 4096, 4096), (9, 4096, 4096), (10, 4096, 4096)])),
  (10, ([12, 14], [(0, 0, 0), (1, 0, 0), (2, 0, 0), (3, 0, 0), (4, 0, 0), (5, 0, 0), (6, 0, 0), (7, 0, 0), (8, 0, 0), (9, 0, 0), (10, 0, 0), (11, 0, 0), (12, 0, 4096), (13, 4096, 4096), (14, 4096, 20480), (3, 4096, 4096), (4, 4096, 4096), (5, 4096, 4096), (9, 4096, 4096), (10, 4096, 4096)])),
  (17, ([12, 14], [(0, 0, 0), (1, 0, 0), (2, 0, 0), (3, 0, 0), (4, 0, 0), (5, 0, 0), (6, 0, 0), (7, 0, 0), (8, 0, 0), (9, 0, 0), (10, 0, 0), (11, 0, 0), (12, 0, 4096), (13, 4096, 4096), (14, 4096, 20480), (3, 4096, 4096), (4, 4096, 4096), (5, 4096, 4096), (9, 4096, 4096), (10, 4096, 4096)])),
  (18, ([12, 14], [(0, 0, 0), (1, 0, 0), (2, 0, 0), (3, 0, 0), (4, 0, 0), (5, 0, 0), (6, 0, 0), (7, 0, 0), (8, 0, 0), (9, 0, 0), (10, 0, 0), (11, 0, 0), (12, 0, 4096), (13, 4096, 4096), (14, 4096, 20480), (3, 4096, 4096), (4, 4096, 4096), (5, 4096, 4096), (9, 4096, 4096), (10, 4096, 4096)])),
  (23, ([12, 14], [(0, 0, 0), (1, 0, 0), (2, 0, 0), (3, 0, 0), (4, 0, 0), (5, 0, 0), (6, 0, 0), (7, 0, 0), (8, 0, 0), (9, 0, 0), (10, 0, 0), (11, 0, 0), (12, 0, 4096), (13, 4096, 4096), (14, 4096, 20480), (3, 4096, 4096), (4, 4096, 4096), (5, 4096, 4096), (9, 4096, 4096), (10, 4096, 4096)]))]
def dr254 : List (Nat × (List Nat × List (Nat × Nat × Nat))) := []
def dr255 : List (Nat × (List Nat × List (Nat × Nat × Nat))) := [(9, ([], [(0, 0, 0), (1, 0, 0), (2, 0, 0), (3, 0, 0), (4, 0, 0), (5, 0, 0), (6, 0, 0), (7, 0, 0), (8, 0, 0), (9, 0, 0), (10, 0, 0), (11, 0, 0), (12, 0, 0), (13, 0, 0), (14, 0, 0), (15, 0, 0), (16, 0, 0), (17, 0, 0), (18, 0, 0)])),
  (13, ([], [(0, 0, 0), (1, 0, 0), (2, 0, 0), (3, 0, 0), (4, 0, 0), (5, 0, 0), (6, 0, 0), (7, 0, 0), (8, 0, 0), (9, 0, 0), (10, 0, 0), (11, 0, 0), (12, 0, 0), (13, 0, 0), (14, 0, 0), (15, 0, 0), (16, 0, 0), (17, 0, 0), (18, 0, 0), (19, 0, 0), (20, 0, 0), (21, 0, 0), (22, 0, 0), (23, 0, 0), (24, 0, 0), (25, 0, 0), (26, 0, 0)]))]
def dr256 : List (Nat × (List Nat × List (Nat × Nat × Nat))) := [(1, ([], [(0, 0, 0), (1, 0, 0), (2, 0, 0), (3, 0, 0), (4, 0, 0), (5, 0, 0), (6, 0, 0), (7, 0, 0), (8, 0, 0)]))]
def dr257 : List (Nat × (List Nat × List (Nat × Nat × Nat))) := []
def dr258 : List (Nat × (List Nat × List (Nat × Nat × Nat))) := []
def dr259 : List (Nat × (List Nat × List (Nat × Nat × Nat))) := []
def dr260 : List (Nat × (List Nat × List (Nat × Nat × Nat))) := []
def dr261 : List (Nat × (List Nat × List (Nat × Nat × Nat))) := []
def dr262 : List (Nat × (List Nat × List (Nat × Nat × Nat))) := []
def dr263 : List (Nat × (List Nat × List (Nat × Nat × Nat))) := []
end Go.Px
end

