/- The evaluator of the model's code and the functions' specs, part 2. Each part begins with a line that says what it holds. -/
import Derived.Test.YtgmimlfiedmclaaGreatJ1
import Derived.Orders
import Derived.LoopN
import Derived.Lib.SlicesCompact
section
/- Every operation: where the evaluator gives a value, the machine's operation goes on with a related one. -/
set_option linter.unusedVariables false
set_option linter.unusedSimpArgs false
namespace Go.Proofs.Ev
open Go Go.RowKit

/-- A function that a call enters. -/
def EnterOk (P : Program) (f : FuncId) : Prop := ∃ fn, P.funcs[f]? = some fn ∧ (fn.name == "runtime.NumGoroutine") = false ∧ fn.body.isNone = false

/-- What a call comes to. -/
def CallOk (P : Program) (f : FuncId) (args : List AV) (h : Hp) (v : AV) (h' : Hp) : Prop :=
  ∀ B E us, SRel h B E → LRel E args us → Calls P f us.toArray E.w fun e w' => ∃ u E', e = .returned u ∧ w' = E'.w ∧ SRel h' B E' ∧ Stp h h' E E' ∧ VRel E' v u

def CallsOk (P : Program) (C : CT) : Prop := ∀ f args h v h', C f args h = some (v, h') → EnterOk P f ∧ CallOk P f args h v h'

section
variable {P : Program} {T : TT} {C : CT} {h h' : Hp} {B : Nat} {E : En} {a : Act} {o : Oper} {K : Act → World → Prop} {Q : Exit → Act → World → Prop} {x : AV} {ρ : Operand → AV}

theorem wp_run {s : Sem Value} (ho : execOp a.eval o = (do pure (.value (← s)))) (hr : RunOk P s h B E x h')
    (hK : ∀ E' u, SRel h' B E' → Stp h h' E E' → VRel E' x u → K (a.put o.dst u) E'.w) : o.wp P a E.w K Q := by
  obtain ⟨u, E', h1, h2, h3, h4⟩ := hr
  unfold Oper.wp
  rw [ho]
  simp only [Sem.run_bind, h1, Result.andThen_ok, Sem.run_pure]
  exact hK E' u h2 h3 h4

theorem wp_same {s : Sem Value} (sr : SRel h B E) (ho : execOp a.eval o = (do pure (.value (← s)))) (hr : Same P E s x)
    (hK : ∀ E' u, SRel h B E' → Stp h h E E' → VRel E' x u → K (a.put o.dst u) E'.w) : o.wp P a E.w K Q := by
  obtain ⟨u, h1, h2⟩ := hr
  exact wp_run ho (RunOk.still sr h1 h2) hK

theorem map_rel (hρ : ∀ y, VRel E (ρ y) (a.eval y)) (l : List Operand) : LRel E (l.map ρ) (l.map a.eval) := by
  refine ⟨by simp, fun j h1 h2 => ?_⟩
  simp only [List.getElem_map]
  exact hρ _

theorem callFunc_run {f : FuncId} {args : Array Value} {w : World} (h : EnterOk P f) : (callFunc f args).run P w = .ok (.enter f args) w := by
  obtain ⟨fn, h1, h2, h3⟩ := h
  simp only [callFunc, Sem.run_bind, run_program, Result.andThen_ok, h1, h2, h3, Bool.false_eq_true, if_false, Sem.run_pure]

theorem op_ok (hT : TOk P T) (hC : CallsOk P C) (he : evOp T C o ρ h = some (x, h')) (s : SRel h B E) (hρ : ∀ y, VRel E (ρ y) (a.eval y))
    (hK : ∀ E' u, SRel h' B E' → Stp h h' E E' → VRel E' x u → K (a.put o.dst u) E'.w) : o.wp P a E.w K Q := by
  have pure1 : ∀ {y : Option AV}, y.map (fun v => (v, h)) = some (x, h') → y = some x ∧ h' = h := by
    intro y hy
    obtain ⟨z, rfl, hz⟩ := Option.map_eq_some_iff.1 hy
    injection hz with h1 h2
    exact ⟨by rw [h1], h2.symm⟩
  obtain ⟨dst, op, ty, pos, after, guard⟩ := o
  cases op <;> simp only [evOp] at he
  case move y =>
    simp only [Option.some.injEq, Prod.mk.injEq] at he
    obtain ⟨rfl, rfl⟩ := he
    unfold Oper.wp
    simp only [execOp, Sem.run_pure]
    exact hK E _ s (Stp.refl _ _) (hρ y)
  case assign y =>
    simp only [Option.some.injEq, Prod.mk.injEq] at he
    obtain ⟨rfl, rfl⟩ := he
    unfold Oper.wp
    simp only [execOp, Sem.run_pure]
    exact hK E _ s (Stp.refl _ _) (hρ y)
  case pick c y z =>
    obtain ⟨hp, rfl⟩ := pure1 he
    obtain ⟨u, h1, h2⟩ := run_pick (P := P) (hρ c) (hρ y) (hρ z) hp
    unfold Oper.wp
    simp only [execOp]
    rw [h1]
    exact hK E _ s (Stp.refl _ _) h2
  case alloc t => exact wp_run rfl (ev_alloc hT s he) hK
  case box t y => exact wp_run rfl (ev_box hT s (hρ y) he) hK
  case build t ps =>
    obtain ⟨hp, rfl⟩ := pure1 he
    refine wp_same s (s := Instr.build t (ps.toList.map fun p => (p.1, a.eval p.2)).toArray) ?_ (ev_build hT (by simp [pairUp]) (fun j h1 h2 => by simp only [pairUp, List.getElem_map]; exact hρ _) hp) hK
    simp only [execOp]
    congr 2
    apply Array.ext'
    simp
  case buildSlice t n ps =>
    obtain ⟨hp, rfl⟩ := pure1 he
    refine wp_run (s := Instr.buildSlice t n (ps.toList.map fun p => (p.1, a.eval p.2)).toArray) ?_ (ev_buildSlice hT s (by simp [pairUp]) (fun j h1 h2 => by simp only [pairUp, List.getElem_map]; exact hρ _) hp) hK
    simp only [execOp]
    congr 2
    apply Array.ext'
    simp
  case load t y =>
    obtain ⟨hp, rfl⟩ := pure1 he
    exact wp_same s rfl (ev_ld hT s (hρ y) hp) hK
  case store t y v =>
    obtain ⟨hs, hst, hz⟩ := Option.map_eq_some_iff.1 he
    injection hz with h1 h2
    subst h1
    subst h2
    obtain ⟨E', h1, h2, h3⟩ := ev_stor (P := P) hT s (hρ y) (hρ v) hst
    unfold Oper.wp
    simp only [execOp, Sem.run_bind, h1, Result.andThen_ok, Sem.run_pure]
    exact hK E' undef h2 h3 (.lit _)
  case nilCheck y =>
    obtain ⟨hp, rfl⟩ := pure1 he
    have hy := hρ y
    unfold Oper.wp
    simp only [execOp]
    generalize a.eval y = u at hy ⊢
    unfold nilChk at hp
    split at hp
    · rename_i s' i q hq
      obtain rfl := Option.some.inj hp
      rw [hq] at hy
      have hy' := hy
      cases hy with
      | elem _ _ _ ad n c sz hs hz =>
      simp only [Sem.run_pure]
      exact hK E _ s (Stp.refl _ _) hy'
    · rename_i f c d hq
      obtain rfl := Option.some.inj hp
      rw [hq] at hy
      have hy' := hy
      cases hy with
      | fn _ _ _ us vs hl hk hu hv =>
      simp only [Sem.run_pure]
      exact hK E _ s (Stp.refl _ _) hy'
    · cases hp
  case binOp op t y z q =>
    obtain ⟨hp, rfl⟩ := pure1 he
    exact wp_same s rfl (ev_bin hT y z (hρ y) (hρ z) hp) hK
  case unOp op t y =>
    obtain ⟨hp, rfl⟩ := pure1 he
    exact wp_same s rfl (ev_un (hρ y) hp) hK
  case convert src d y =>
    obtain ⟨hp, rfl⟩ := pure1 he
    exact wp_same s rfl (ev_conv hT (hρ y) hp) hK
  case makeFunc f first cap =>
    cases f <;> simp only [reduceCtorEq] at he
    rename_i g
    simp only [Option.some.injEq, Prod.mk.injEq] at he
    obtain ⟨rfl, rfl⟩ := he
    unfold Oper.wp
    simp only [execOp, Instr.makeFunc, Sem.run_bind, Sem.run_pure, Result.andThen_ok]
    have h1 := map_rel hρ first.toList
    have h2 := map_rel hρ cap.toList
    refine hK E _ s (Stp.refl _ _) ?_
    have := VRel.fn (E := E) g (first.toList.map ρ) (cap.toList.map ρ) (first.toList.map a.eval) (cap.toList.map a.eval) h1.1 h2.1 h1.2 h2.2
    have e1 : (first.toList.map a.eval).toArray = first.map a.eval := by apply Array.ext'; simp
    have e2 : (cap.toList.map a.eval).toArray = cap.map a.eval := by apply Array.ext'; simp
    rwa [e1, e2] at this
  case makeSlice t l c => exact wp_run rfl (ev_makeSl hT s (hρ l) (hρ c) he) hK
  case slice t y lo hi mx =>
    cases mx with
    | some m => simp at he
    | none =>
      simp only at he
      obtain ⟨hp, rfl⟩ := pure1 he
      have ho : ∀ q : Option Operand, ORel E (q.map ρ) (q.map a.eval) := fun q => by
        cases q with
        | none => trivial
        | some q => exact hρ q
      exact wp_same s rfl (ev_cut hT s (hρ y) (ho lo) (ho hi) hp) hK
  case fieldAddr t y f =>
    obtain ⟨hp, rfl⟩ := pure1 he
    exact wp_same s rfl (ev_fldAddr hT (hρ y) hp) hK
  case field t y f =>
    obtain ⟨hp, rfl⟩ := pure1 he
    exact wp_same s rfl (ev_fld hT (hρ y) hp) hK
  case indexAddr t y i =>
    obtain ⟨hp, rfl⟩ := pure1 he
    exact wp_same s rfl (ev_idxAddr hT s (hρ y) (hρ i) hp) hK
  case index t y i =>
    obtain ⟨hp, rfl⟩ := pure1 he
    exact wp_same s rfl (ev_index hT (hρ y) (hρ i) hp) hK
  case extract y i =>
    obtain ⟨hp, rfl⟩ := pure1 he
    exact wp_same s rfl (ev_extr (hρ y) hp) hK
  case call c =>
    obtain ⟨callee, args, argTypes⟩ := c
    have hargs := map_rel hρ args.toList
    cases callee with
    | invoke r m => simp at he
    | builtin b =>
      simp only at he
      have one : ∀ {y : AV}, args.toList.map ρ = [y] → ∃ u, args.map a.eval = #[u] ∧ VRel E y u := by
        intro y hy
        rw [hy] at hargs
        have hl := hargs.1
        cases hm : args.toList.map a.eval with
        | nil => rw [hm] at hl; simp at hl
        | cons u us =>
          rw [hm] at hl
          cases us with
          | cons w us => simp at hl
          | nil =>
            refine ⟨u, by apply Array.ext'; simpa using hm, ?_⟩
            have := hargs.2 0 (by simp) (by rw [hm]; simp)
            simpa [hm] using this
      have two : ∀ {y z : AV}, args.toList.map ρ = [y, z] → ∃ u v, args.map a.eval = #[u, v] ∧ VRel E y u ∧ VRel E z v := by
        intro y z hy
        rw [hy] at hargs
        have hl := hargs.1
        cases hm : args.toList.map a.eval with
        | nil => rw [hm] at hl; simp at hl
        | cons u us =>
          cases us with
          | nil => rw [hm] at hl; simp at hl
          | cons w us =>
            rw [hm] at hl
            cases us with
            | cons w us => simp at hl
            | nil =>
              refine ⟨u, w, by apply Array.ext'; simpa using hm, ?_, ?_⟩
              · have := hargs.2 0 (by simp) (by rw [hm]; simp)
                simpa [hm] using this
              · have := hargs.2 1 (by simp) (by rw [hm]; simp)
                simpa [hm] using this
      have hty : ∀ {l : List TypeId}, argTypes.toList = l → argTypes = l.toArray := fun h => by apply Array.ext'; simpa using h
      unfold bltin at he
      split at he
      · rename_i y t h1 h2
        obtain ⟨hp, rfl⟩ := pure1 he
        obtain ⟨u, hu, ru⟩ := one h1
        have := hty h2
        subst this
        exact wp_same s (s := Builtin.len_ #[t] ty #[u]) (by simp only [execOp, resolve, hu, bind, Sem.bind, pure]; rfl) (ev_len hT s ru hp) hK
      · rename_i y z h1
        obtain ⟨hp, rfl⟩ := pure1 he
        obtain ⟨u, v, hu, ru, rv⟩ := two h1
        have := ev_minmax (P := P) (E := E) ru rv hp
        exact wp_same s (s := Builtin.max_ argTypes ty #[u, v]) (by simp only [execOp, resolve, hu, bind, Sem.bind, pure]; rfl) (by simpa [Builtin.max_, Same] using this) hK
      · rename_i y z h1
        obtain ⟨hp, rfl⟩ := pure1 he
        obtain ⟨u, v, hu, ru, rv⟩ := two h1
        have := ev_minmax (P := P) (E := E) ru rv hp
        exact wp_same s (s := Builtin.min_ argTypes ty #[u, v]) (by simp only [execOp, resolve, hu, bind, Sem.bind, pure]; rfl) (by simpa [Builtin.min_, Same] using this) hK
      · rename_i y z t t' h1 h2
        split at he
        · rename_i ht
          subst ht
          obtain ⟨u, v, hu, ru, rv⟩ := two h1
          have := hty h2
          subst this
          exact wp_run (s := Builtin.append_ #[t, t] ty #[u, v]) (by simp only [execOp, resolve, hu, bind, Sem.bind, pure]; rfl) (ev_app hT s ru rv he) hK
        · cases he
      · cases he
    | value f =>
      simp only at he
      split at he
      · rename_i g first cap hf
        have hv := hρ f
        rw [hf] at hv
        generalize hfu : a.eval f = fu at hv
        cases hv with
        | fn _ _ _ us vs hl hk hu hv =>
        obtain ⟨hen, hcall⟩ := hC g _ h x h' he
        have hrel : LRel E (first ++ args.toList.map ρ ++ cap) (us ++ args.toList.map a.eval ++ vs) := (LRel.append ⟨hl, hu⟩ hargs).append ⟨hk, hv⟩
        have hc := hcall B E _ s hrel
        have harr : (us ++ args.toList.map a.eval ++ vs).toArray = us.toArray ++ args.map a.eval ++ vs.toArray := by apply Array.ext'; simp
        rw [harr] at hc
        unfold Oper.wp
        have hrun : (execOp a.eval ⟨dst, .call ⟨.value f, args, argTypes⟩, ty, pos, after, guard⟩).run P E.w = .ok (.enter g (us.toArray ++ args.map a.eval ++ vs.toArray)) E.w := by
          simp only [execOp, resolve, hfu, Deferred.ofValue, Sem.run_bind, Sem.run_pure, Result.andThen_ok, invoke]
          exact callFunc_run hen
        rw [hrun, Oper.upon_enter]
        refine hc.mono ?_
        rintro e w' ⟨u, E', rfl, rfl, h1, h2, h3⟩
        exact hK E' u h1 h2 h3
      · cases he
  all_goals cases he
end
end Go.Proofs.Ev
end
section
/- A region that asks the tape for its order: whatever the order, what comes out is what the text's order gives. -/
set_option linter.unusedVariables false
set_option linter.unusedSimpArgs false
namespace Go.Proofs.Ev
open Go Go.RowKit

section
variable {P : Program} {T : TT} {C : CT} {h h' : Hp} {B : Nat} {E : En} {a : Act} {o : Oper} {x : AV} {ρ ρ' : Operand → AV}

theorem pairUp_congr {ps : Array (Nat × Operand)} (h : ∀ y ∈ (ps.toList.map (·.2)), ρ y = ρ' y) : pairUp ρ ps = pairUp ρ' ps := by
  unfold pairUp
  refine List.map_congr_left fun p hp => ?_
  rw [h p.2 (List.mem_map.2 ⟨p, hp, rfl⟩)]

theorem map_congr' {l : List Operand} (h : ∀ y ∈ l, ρ y = ρ' y) : l.map ρ = l.map ρ' := List.map_congr_left h

theorem evOp_congr (hh : ∀ y ∈ o.op.operands, ρ y = ρ' y) : evOp T C o ρ h = evOp T C o ρ' h := by
  obtain ⟨dst, op, ty, pos, after, guard⟩ := o
  cases op <;> simp only [Op.operands] at hh <;> simp only [evOp]
  case call c =>
    obtain ⟨callee, args, tys⟩ := c
    simp only [Call.operands] at hh
    have ha : args.toList.map ρ = args.toList.map ρ' := map_congr' fun y hy => hh y (by simp; exact .inr (by simpa using hy))
    cases callee with
    | value f =>
      have hf : ρ f = ρ' f := hh f (by simp)
      simp only [ha, hf]
    | invoke r m => rfl
    | builtin b => simp only [ha]
  case pick c y z => rw [hh c (by simp), hh y (by simp), hh z (by simp)]
  case build t ps => rw [pairUp_congr fun y hy => hh y (by simpa using hy)]
  case buildSlice t n ps => rw [pairUp_congr fun y hy => hh y (by simpa using hy)]
  case makeFunc fn first cap =>
    cases fn <;> simp only []
    rw [map_congr' (l := first.toList) fun y hy => hh y (by simp; exact .inl (by simpa using hy)), map_congr' (l := cap.toList) fun y hy => hh y (by simp; exact .inr (by simpa using hy))]
  case slice t y lo hi mx =>
    cases mx with
    | some m => rfl
    | none =>
      have h1 : ρ y = ρ' y := hh y (by simp)
      have h2 : lo.map ρ = lo.map ρ' := by cases lo with
        | none => rfl
        | some l => simp only [Option.map_some]; rw [hh l (by simp)]
      have h3 : hi.map ρ = hi.map ρ' := by cases hi with
        | none => rfl
        | some l => simp only [Option.map_some]; rw [hh l (by simp)]
      simp only [h1, h2, h3]
  all_goals first
    | rfl
    | (rw [hh _ (by simp)]; done)
    | (rw [hh _ (by simp)]; rw [hh _ (by simp)]; done)
    | (simp only [hh _ (show _ ∈ _ by simp)]; done)

/-- What doesn't turn the heap leaves it; what doesn't look at it gives the same in every heap. -/
theorem evOp_still (hρ : ∀ g, ρ (.func g) = .fn g [] []) (he : evOp T C o ρ h = some (x, h')) (ht : touches C.still o ≠ 2) : h' = h := by
  have key : ∀ {y : Option AV}, y.map (fun v => (v, h)) = some (x, h') → h' = h := by
    intro y hy
    obtain ⟨z, _, hz⟩ := Option.map_eq_some_iff.1 hy
    injection hz with _ h2
    exact h2.symm
  obtain ⟨dst, op, ty, pos, after, guard⟩ := o
  cases op <;> simp only [evOp] at he <;> simp only [touches] at ht <;> first
    | exact key he
    | (simp only [Option.some.injEq, Prod.mk.injEq] at he; exact he.2.symm)
    | (exact absurd rfl ht)
    | skip
  case makeFunc fn first cap =>
    cases fn <;> simp only [reduceCtorEq] at he
    simp only [Option.some.injEq, Prod.mk.injEq] at he
    exact he.2.symm
  case slice t y lo hi mx =>
    cases mx with
    | some m => simp at he
    | none => exact key he
  case call c =>
    obtain ⟨callee, args, tys⟩ := c
    cases callee with
    | value f =>
      cases f with
      | func g =>
        simp only [hρ] at he
        simp only at ht
        by_cases hs : C.still g = true
        · exact C.ok g hs _ _ _ _ he
        · rw [if_neg hs] at ht
          exact absurd rfl ht
      | _ => exact absurd rfl ht
    | invoke r m => exact absurd rfl ht
    | builtin b =>
      simp only at he ht
      unfold bltin at he
      split at he
      · exact key he
      · exact key he
      · exact key he
      · exact absurd rfl ht
      · cases he
  all_goals cases he

theorem evOp_blind (he : evOp T C o ρ h = some (x, h')) (ht : touches C.still o = 0) (h2 : Hp) : evOp T C o ρ h2 = some (x, h2) := by
  have key : ∀ {y : Option AV}, y.map (fun v => (v, h)) = some (x, h') → y.map (fun v => (v, h2)) = some (x, h2) := by
    intro y hy
    obtain ⟨z, hz1, hz⟩ := Option.map_eq_some_iff.1 hy
    injection hz with h1 _
    rw [hz1, h1]
    rfl
  obtain ⟨dst, op, ty, pos, after, guard⟩ := o
  cases op <;> simp only [evOp] at he ⊢ <;> simp only [touches] at ht <;> first
    | exact key he
    | (simp only [Option.some.injEq, Prod.mk.injEq] at he ⊢; exact ⟨he.1, trivial⟩)
    | (exact absurd ht (by decide))
    | skip
  case makeFunc fn first cap =>
    cases fn <;> simp only [reduceCtorEq] at he ⊢
    simp only [Option.some.injEq, Prod.mk.injEq] at he ⊢
    exact ⟨he.1, trivial⟩
  case call c =>
    obtain ⟨callee, args, tys⟩ := c
    cases callee with
    | value f =>
      cases f with
      | func g => simp only at ht; split at ht <;> cases ht
      | _ => simp at ht
    | invoke r m => simp at ht
    | builtin b => cases b <;> simp at ht
  all_goals cases he
end

/-! The order over edges. -/
theorem before_step (acc : Array Nat) (l : List Edge) (s0 i : Nat) (h : (l.foldl (fun s e => if Region.binds .any e then s ||| 2 ^ e.on ||| acc.getD e.on 0 else s) s0).testBit i = true) :
    s0.testBit i = true ∨ ∃ e ∈ l, Region.binds .any e = true ∧ (e.on = i ∨ (acc.getD e.on 0).testBit i = true) := by
  induction l generalizing s0 with
  | nil => exact .inl h
  | cons e l ih =>
    simp only [List.foldl_cons] at h
    rcases ih _ h with h1 | ⟨e', he', hb⟩
    · split at h1
      · rename_i hb
        simp only [Nat.testBit_or, Bool.or_eq_true] at h1
        rcases h1 with (h1 | h1) | h1
        · exact .inl h1
        · refine .inr ⟨e, by simp, hb, .inl ?_⟩
          rw [Nat.testBit_two_pow] at h1
          simpa using h1
        · exact .inr ⟨e, by simp, hb, .inr h1⟩
      · exact .inl h1
    · exact .inr ⟨e', by simp [he'], hb⟩

theorem before_spec (ops : Array Oper) : (Region.before ops).size = ops.size ∧
    ∀ (j : Nat) (o : Oper), ops[j]? = some o → ∀ i, ((Region.before ops).getD j 0).testBit i = true →
      ∃ e ∈ o.after.toList, Region.binds .any e = true ∧ (e.on = i ∨ (e.on < j ∧ ((Region.before ops).getD e.on 0).testBit i = true)) := by
  have key : ∀ (l : List Oper) (acc : Array Nat), ∃ r, l.foldl (fun acc o => acc.push (o.after.foldl (fun s e => if Region.binds .any e then s ||| 2 ^ e.on ||| acc.getD e.on 0 else s) 0)) acc = r ∧
      r.size = acc.size + l.length ∧ (∀ k, k < acc.size → r.getD k 0 = acc.getD k 0) ∧
      ∀ (j : Nat) (o : Oper), l[j]? = some o → ∀ i, (r.getD (acc.size + j) 0).testBit i = true →
        ∃ e ∈ o.after.toList, Region.binds .any e = true ∧ (e.on = i ∨ (e.on < acc.size + j ∧ (r.getD e.on 0).testBit i = true)) := by
    intro l
    induction l with
    | nil => intro acc; exact ⟨acc, rfl, by simp, fun _ _ => rfl, fun j o h => by simp at h⟩
    | cons o l ih =>
      intro acc
      simp only [List.foldl_cons]
      generalize hx : (o.after.foldl (fun s e => if Region.binds .any e then s ||| 2 ^ e.on ||| acc.getD e.on 0 else s) 0) = x
      obtain ⟨r, h1, h2, h3, h4⟩ := ih (acc.push x)
      have hp : ∀ k, k < acc.size → (acc.push x).getD k 0 = acc.getD k 0 := by
        intro k hk
        simp only [Array.getD_eq_getD_getElem?]
        rw [Array.getElem?_push, if_neg (by omega)]
      refine ⟨r, h1, by rw [h2]; simp; omega, fun k hk => by rw [h3 k (by simp; omega), hp k hk], fun j o' ho i hi => ?_⟩
      cases j with
      | zero =>
        obtain rfl : o = o' := by simpa using ho
        rw [Nat.add_zero] at hi ⊢
        have hxx : r.getD acc.size 0 = x := by
          rw [h3 acc.size (by simp)]
          simp
        rw [hxx, ← hx, ← Array.foldl_toList] at hi
        rcases before_step acc o.after.toList 0 i hi with h0 | ⟨e, he, hb, hor⟩
        · simp at h0
        · refine ⟨e, he, hb, ?_⟩
          rcases hor with hor | hor
          · exact .inl hor
          · right
            have hlt : e.on < acc.size := by
              rcases Nat.lt_or_ge e.on acc.size with h | h
              · exact h
              · rw [Array.getD_eq_getD_getElem?, Array.getElem?_eq_none h] at hor
                simp at hor
            refine ⟨hlt, ?_⟩
            rw [h3 e.on (by simp; omega), hp e.on hlt]
            exact hor
      | succ j =>
        have := h4 j o' (by simpa using ho) i (by simpa [Nat.add_assoc, Nat.add_comm 1 j] using hi)
        simpa [Nat.add_assoc, Nat.add_comm 1 j] using this
  obtain ⟨r, h1, h2, _, h4⟩ := key ops.toList #[]
  have hr : Region.before ops = r := by
    unfold Region.before
    rw [← Array.foldl_toList]
    exact h1
  rw [hr]
  refine ⟨by rw [h2]; simp, fun j o ho i hi => ?_⟩
  have := h4 j o (by simpa using ho) i (by simpa using hi)
  simpa using this

/-- What a set closed under the edges holds. -/
theorem before_closed {ops : Array Oper} {D : Nat → Prop} (hD : ∀ j o, D j → ops[j]? = some o → ∀ e ∈ o.after.toList, Region.binds .any e = true → D e.on) :
    ∀ (n j : Nat) (o : Oper), j ≤ n → ops[j]? = some o → (∀ e ∈ o.after.toList, Region.binds .any e = true → D e.on) → ∀ i, ((Region.before ops).getD j 0).testBit i = true → D i := by
  intro n
  induction n with
  | zero =>
    intro j o hj ho hall i hi
    obtain ⟨e, he, hb, hor⟩ := (before_spec ops).2 j o ho i hi
    rcases hor with rfl | ⟨hlt, _⟩
    · exact hall e he hb
    · omega
  | succ n ih =>
    intro j o hj ho hall i hi
    obtain ⟨e, he, hb, hor⟩ := (before_spec ops).2 j o ho i hi
    rcases hor with rfl | ⟨hlt, hbit⟩
    · exact hall e he hb
    · have hlt' : e.on < ops.size := by
        rcases Nat.lt_or_ge e.on ops.size with h | h
        · exact h
        · rw [Array.getD_eq_getD_getElem?, Array.getElem?_eq_none (by rw [(before_spec ops).1]; exact h)] at hbit
          simp at hbit
      exact ih e.on ops[e.on] (by omega) (by simp [hlt']) (fun e' he' hb' => hD e.on _ (hall e he hb) (by simp [hlt']) e' he' hb') i hbit
end Go.Proofs.Ev
end
section
/- Regions, in the text's order and in any other. -/
set_option linter.unusedVariables false
set_option linter.unusedSimpArgs false
namespace Go.Proofs.Ev
open Go Go.RowKit

/-- A frame against the machine's. -/
structure FRel (E : En) (nt : Nat) (f : Nat → AV) (a : Act) : Prop where
  size : a.tmps.size = nt
  defers : a.defers = []
  rel : ∀ t, VRel E (f t) (a.tmps.getD t undef)

section
variable {P : Program} {T : TT} {C : CT} {E E' : En} {nt : Nat} {f g : Nat → AV} {a : Act} {ops : Array Oper} {o : Oper}

theorem FRel.ext (h : FRel E nt f a) (x : Ext E E') : FRel E' nt f a := ⟨h.size, h.defers, fun t => (h.rel t).ext x⟩
theorem FRel.congr (h : FRel E nt f a) (e : ∀ t, f t = g t) : FRel E nt g a := ⟨h.size, h.defers, fun t => by rw [← e t]; exact h.rel t⟩

theorem FRel.rho (h : FRel E nt f a) (y : Operand) : VRel E (rhoOf f y) (a.eval y) := by
  unfold rhoOf
  split
  · exact h.rel _
  · exact .nilS
  · exact .lit _
  · exact VRel.fn _ [] [] [] [] rfl rfl (fun j h => by simp at h) (fun j h => by simp at h)
  · exact .junk _

theorem FRel.put (h : FRel E nt f a) {d : Option Tmp} (hd : ∀ t, d = some t → t < nt) {v : AV} {u : Value} (hv : VRel E v u) : FRel E nt (fun t => if d = some t then v else f t) (a.put d u) := by
  cases d with
  | none => exact ⟨h.size, h.defers, fun t => by have := h.rel t; simpa [Act.put] using this⟩
  | some d =>
    refine ⟨by simp [Act.put, h.size], h.defers, fun t => ?_⟩
    have hlt := hd d rfl
    simp only [Act.put, Array.getD_eq_getD_getElem?]
    by_cases e : d = t
    · subst e
      rw [if_pos rfl, Array.getElem?_setIfInBounds_self_of_lt (by rw [h.size]; exact hlt)]
      exact hv
    · rw [if_neg (by simpa using e), Array.getElem?_setIfInBounds_ne e]
      have := h.rel t
      rwa [Array.getD_eq_getD_getElem?] at this

theorem FRel.wanted (h : FRel E nt f a) {b : Bool} (hw : want ops o f = some b) : Region.wanted o (yielded ops a.tmps) = b := by
  unfold want at hw
  unfold Region.wanted
  cases hg : o.guard with
  | none => rw [hg] at hw; simpa using hw
  | some p =>
    obtain ⟨j, c⟩ := p
    rw [hg] at hw
    simp only at hw ⊢
    unfold yielded
    cases hd : (ops[j]?).bind (·.dst) with
    | none => rw [hd] at hw; simp at hw
    | some d =>
      rw [hd] at hw
      simp only at hw
      have hr := h.rel d
      split at hw
      · rename_i q hq
        rw [hq] at hr
        generalize hu : a.tmps.getD d undef = u at hr
        cases hr
        obtain rfl := Option.some.inj hw
        have : a.tmps[d]? = some (.bool q) := by
          rw [Array.getD_eq_getD_getElem?] at hu
          cases he : a.tmps[d]? with
          | none => rw [he] at hu; simp [undef] at hu
          | some w => rw [he] at hu; simpa using hu
        simp only [Option.bind_some, this]
        cases q <;> cases c <;> rfl
      · rename_i q hq
        rw [hq] at hr
        generalize hu : a.tmps.getD d undef = u at hr
        cases hr
        obtain rfl := Option.some.inj hw
        have : ∀ w, a.tmps[d]? = some w → w = .tuple q := by
          intro w he
          rw [Array.getD_eq_getD_getElem?, he] at hu
          simpa using hu
        cases he : a.tmps[d]? with
        | none => simp [he]
        | some w => rw [this w he] at he; simp [he]
      · cases hw

theorem rho_congr {y : Operand} (h : ∀ t, y = .tmp t → f t = g t) : rhoOf f y = rhoOf g y := by
  cases y with
  | tmp t => exact h t rfl
  | const v => cases v with
    | slice a l c => cases a <;> cases l <;> cases c <;> rfl
    | _ => rfl
  | global g => rfl
  | func f => rfl

/-- What an operation and its guard look at. -/
theorem evOp_looks {h : Hp} (hh : ∀ t ∈ o.looksAt ops, f t = g t) : evOp T C o (rhoOf f) h = evOp T C o (rhoOf g) h :=
  evOp_congr fun y hy => rho_congr fun t e => by
    subst e
    exact hh t (List.mem_append_left _ (List.mem_filterMap.2 ⟨.tmp t, by simpa using hy, rfl⟩))
theorem want_looks (hh : ∀ t ∈ o.looksAt ops, f t = g t) : want ops o f = want ops o g := by
  unfold want
  cases hg : o.guard with
  | none => rfl
  | some p =>
    obtain ⟨j, c⟩ := p
    simp only
    cases hd : (ops[j]?).bind (·.dst) with
    | none => rfl
    | some d =>
      simp only
      rw [hh d (List.mem_append_right _ (by rw [hg]; simp [hd]))]

end

theorem look_bind (K : Nat → Bool) (s : Fr) (dst : Option Tmp) (v : AV) (l : Loc) (t : Nat) : look (bindL dst v l) s K t = if dst = some t then v else look l s K t := by
  cases dst with
  | none => simp [bindL]
  | some d =>
    simp only [bindL, look, Option.some.injEq]
    by_cases e : t = d
    · simp [e]
    · rw [if_neg e, if_neg (fun h => e h.symm)]

/-- What running the operations leaves behind, place by place. -/
structure Tr (T : TT) (C : CT) (ops : Array Oper) (K : Nat → Bool) (nt : Nat) (s : Fr) (l : List Oper) (V : Nat → AV) (W : Nat → Bool) (H : Nat → Hp) (L : Nat → Loc) : Prop where
  dst : ∀ (j : Nat) (o : Oper), l[j]? = some o → ∀ t, o.dst = some t → t < nt
  want : ∀ (j : Nat) (o : Oper), l[j]? = some o → want ops o (look (L j) s K) = some (W j)
  run : ∀ (j : Nat) (o : Oper), l[j]? = some o → W j = true → evOp T C o (rho (L j) s K) (H j) = some (V j, H (j + 1))
  skip : ∀ (j : Nat) (o : Oper), l[j]? = some o → W j = false → V j = .lit undef ∧ H (j + 1) = H j
  loc : ∀ (j : Nat) (o : Oper), l[j]? = some o → L (j + 1) = bindL o.dst (V j) (L j)

theorem evOps_tr {T : TT} {C : CT} {ops : Array Oper} {K : Nat → Bool} {nt : Nat} {s : Fr} : ∀ (l : List Oper) (L0 L1 : Loc) (h0 h1 : Hp), evOps T C ops K nt s l L0 h0 = some (L1, h1) →
    ∃ V W H L, L 0 = L0 ∧ H 0 = h0 ∧ L l.length = L1 ∧ H l.length = h1 ∧ Tr T C ops K nt s l V W H L := by
  intro l
  induction l with
  | nil =>
    intro L0 L1 h0 h1 h
    simp only [evOps, Option.some.injEq, Prod.mk.injEq] at h
    obtain ⟨rfl, rfl⟩ := h
    refine ⟨fun _ => .junk, fun _ => true, fun _ => h0, fun _ => L0, rfl, rfl, rfl, rfl, ?_⟩
    constructor <;> intro j o h <;> simp at h
  | cons o l ih =>
    intro L0 L1 h0 h1 h
    simp only [evOps] at h
    split at h
    · rename_i hd
      have fin : ∀ (v : AV) (b : Bool) (hx : Hp), want ops o (look L0 s K) = some b → (b = true → evOp T C o (rho L0 s K) h0 = some (v, hx)) → (b = false → v = .lit undef ∧ hx = h0) →
          evOps T C ops K nt s l (bindL o.dst v L0) hx = some (L1, h1) → ∃ V W H L, L 0 = L0 ∧ H 0 = h0 ∧ L (o :: l).length = L1 ∧ H (o :: l).length = h1 ∧ Tr T C ops K nt s (o :: l) V W H L := by
        intro v b hx hw hr hs hrest
        obtain ⟨V, W, H, L, e1, e2, e3, e4, tr⟩ := ih _ _ _ _ hrest
        refine ⟨fun j => Nat.casesOn j v V, fun j => Nat.casesOn j b W, fun j => Nat.casesOn j h0 H, fun j => Nat.casesOn j L0 L, rfl, rfl, e3, e4, ?_⟩
        constructor
        · intro j o' hj t ht
          cases j with
          | zero =>
            obtain rfl : o = o' := by simpa using hj
            rw [ht] at hd
            simpa [dstOk] using hd
          | succ j => exact tr.dst j o' (by simpa using hj) t ht
        · intro j o' hj
          cases j with
          | zero =>
            obtain rfl : o = o' := by simpa using hj
            exact hw
          | succ j => exact tr.want j o' (by simpa using hj)
        · intro j o' hj hb
          cases j with
          | zero =>
            obtain rfl : o = o' := by simpa using hj
            show evOp T C o (rho L0 s K) h0 = some (v, H 0)
            rw [e2]
            exact hr hb
          | succ j => exact tr.run j o' (by simpa using hj) hb
        · intro j o' hj hb
          cases j with
          | zero =>
            obtain rfl : o = o' := by simpa using hj
            show v = _ ∧ H 0 = h0
            rw [e2]
            exact hs hb
          | succ j => exact tr.skip j o' (by simpa using hj) hb
        · intro j o' hj
          cases j with
          | zero =>
            obtain rfl : o = o' := by simpa using hj
            exact e1
          | succ j => exact tr.loc j o' (by simpa using hj)
      split at h
      · cases h
      · rename_i hw
        exact fin _ false h0 hw (by simp) (fun _ => ⟨rfl, rfl⟩) h
      · rename_i hw
        split at h
        · cases h
        · rename_i v hx hev
          exact fin v true hx hw (fun _ => hev) (by simp) h
    · cases h
end Go.Proofs.Ev
end
section
/- Any order gives what the text's order gives. -/
set_option linter.unusedVariables false
set_option linter.unusedSimpArgs false
namespace Go.Proofs.Ev
open Go Go.RowKit

/-- What the listed ones among the first n have left at place t. -/
def lookN (ops : Array Oper) (V : Nat → AV) (f0 : Nat → AV) (D : Nat → Bool) : Nat → Nat → AV
  | 0, t => f0 t
  | k + 1, t => if D k = true ∧ (ops[k]?).bind (·.dst) = some t then V k else lookN ops V f0 D k t
def touchN (S : FuncId → Bool) (ops : Array Oper) (k : Nat) : Bool := ((ops[k]?).map fun o => decide (touches S o = 2)).getD false
def hpN (S : FuncId → Bool) (ops : Array Oper) (H : Nat → Hp) (D : Nat → Bool) : Nat → Hp
  | 0 => H 0
  | k + 1 => if D k = true ∧ touchN S ops k = true then H (k + 1) else hpN S ops H D k

section
variable {S : FuncId → Bool} {ops : Array Oper} {V : Nat → AV} {f0 : Nat → AV} {H : Nat → Hp} {D D' : Nat → Bool}

theorem lookN_eq {t : Nat} : ∀ n, (∀ k, k < n → (ops[k]?).bind (·.dst) = some t → D k = D' k) → lookN ops V f0 D n t = lookN ops V f0 D' n t
  | 0, _ => rfl
  | n + 1, h => by
    simp only [lookN]
    rw [lookN_eq n fun k hk => h k (by omega)]
    by_cases e : (ops[n]?).bind (·.dst) = some t
    · rw [h n (by omega) e]
    · rw [if_neg (fun c => e c.2), if_neg (fun c => e c.2)]
theorem hpN_eq : ∀ n, (∀ k, k < n → touchN S ops k = true → D k = D' k) → hpN S ops H D n = hpN S ops H D' n
  | 0, _ => rfl
  | n + 1, h => by
    simp only [hpN]
    rw [hpN_eq n fun k hk => h k (by omega)]
    by_cases e : touchN S ops n = true
    · rw [h n (by omega) e]
    · rw [if_neg (fun c => e c.2), if_neg (fun c => e c.2)]
/-- Those below i alone. -/
theorem lookN_below {t i : Nat} : ∀ n, i ≤ n → lookN ops V f0 (fun k => decide (k < i)) n t = lookN ops V f0 (fun _ => true) i t
  | 0, h => by obtain rfl : i = 0 := by omega
               rfl
  | n + 1, h => by
    by_cases e : i = n + 1
    · subst e
      exact lookN_eq _ fun k hk _ => by simp [hk]
    · simp only [lookN]
      rw [if_neg (fun c => by have := c.1; simp at this; omega)]
      exact lookN_below n (by omega)
theorem hpN_below {i : Nat} : ∀ n, i ≤ n → hpN S ops H (fun k => decide (k < i)) n = hpN S ops H (fun _ => true) i
  | 0, h => by obtain rfl : i = 0 := by omega
               rfl
  | n + 1, h => by
    by_cases e : i = n + 1
    · subst e
      exact hpN_eq _ fun k hk _ => by simp [hk]
    · simp only [hpN]
      rw [if_neg (fun c => by have := c.1; simp at this; omega)]
      exact hpN_below n (by omega)
theorem lookN_set {t i : Nat} (hi : (ops[i]?).bind (·.dst) = some t) : ∀ n, i < n → (∀ k, i < k → k < n → (ops[k]?).bind (·.dst) = some t → D k = false) → D i = true → lookN ops V f0 D n t = V i
  | 0, h, _, _ => by omega
  | n + 1, h, hk, hd => by
    simp only [lookN]
    by_cases e : i = n
    · subst e
      rw [if_pos ⟨hd, hi⟩]
    · rw [if_neg (fun c => by have := hk n (by omega) (by omega) c.2; rw [this] at c; cases c.1)]
      exact lookN_set hi n (by omega) (fun k h1 h2 => hk k h1 (by omega)) hd
theorem hpN_set {i : Nat} (hi : touchN S ops i = true) : ∀ n, i < n → (∀ k, i < k → k < n → touchN S ops k = true → D k = false) → D i = true → hpN S ops H D n = H (i + 1)
  | 0, h, _, _ => by omega
  | n + 1, h, hk, hd => by
    simp only [hpN]
    by_cases e : i = n
    · subst e
      rw [if_pos ⟨hd, hi⟩]
    · rw [if_neg (fun c => by have := hk n (by omega) (by omega) c.2; rw [this] at c; cases c.1)]
      exact hpN_set hi n (by omega) (fun k h1 h2 => hk k h1 (by omega)) hd
theorem hpN_cases (i : Nat) : ∀ n, (∃ j, i < j ∧ j < n ∧ D j = true ∧ touchN S ops j = true ∧ hpN S ops H D n = H (j + 1)) ∨ (∀ j, i < j → j < n → touchN S ops j = true → D j = false)
  | 0 => .inr fun j _ h => by omega
  | n + 1 => by
    by_cases hn : D n = true ∧ touchN S ops n = true
    · by_cases hi : i < n
      · exact .inl ⟨n, hi, by omega, hn.1, hn.2, by simp only [hpN]; rw [if_pos hn]⟩
      · exact .inr fun j h1 h2 => by omega
    · rcases hpN_cases i n with ⟨j, h1, h2, h3, h4, h5⟩ | h
      · exact .inl ⟨j, h1, by omega, h3, h4, by simp only [hpN]; rw [if_neg hn]; exact h5⟩
      · refine .inr fun j h1 h2 h3 => ?_
        by_cases e : j = n
        · subst e
          cases hd : D j with
          | false => rfl
          | true => exact absurd ⟨hd, h3⟩ hn
        · exact h j h1 (by omega) h3
end

section
variable {P : Program} {T : TT} {C : CT} {ops : Array Oper} {K : Nat → Bool} {nt : Nat} {s : Fr} {V : Nat → AV} {W : Nat → Bool} {H : Nat → Hp} {L : Nat → Loc}

theorem Tr.look (tr : Tr T C ops K nt s ops.toList V W H L) (h0 : L 0 = []) : ∀ n, n ≤ ops.size → ∀ t, look (L n) s K t = lookN ops V (look [] s K) (fun _ => true) n t := by
  intro n
  induction n with
  | zero => intro _ t; rw [h0]; rfl
  | succ n ih =>
    intro hn t
    have ho : ops.toList[n]? = some ops[n] := by simp [show n < ops.size by omega]
    rw [tr.loc n _ ho, look_bind, ih (by omega) t]
    simp [lookN, show n < ops.size by omega]

theorem Tr.hp (tr : Tr T C ops K nt s ops.toList V W H L) : ∀ n, n ≤ ops.size → H n = hpN C.still ops H (fun _ => true) n := by
  intro n
  induction n with
  | zero => intro _; rfl
  | succ n ih =>
    intro hn
    have ho : ops.toList[n]? = some ops[n] := by simp [show n < ops.size by omega]
    simp only [hpN]
    by_cases ht : touchN C.still ops n = true
    · rw [if_pos ⟨trivial, ht⟩]
    · rw [if_neg (fun c => ht c.2), ← ih (by omega)]
      have ht' : touches C.still ops[n] ≠ 2 := by
        intro e
        apply ht
        simp [touchN, show n < ops.size by omega, e]
      cases hw : W n with
      | true => exact evOp_still (fun _ => rfl) (tr.run n _ ho hw) ht'
      | false => exact (tr.skip n _ ho hw).2

theorem okDraw_spec (h : okDraw C.still ops = true) : (∀ (j : Nat) (o : Oper), ops[j]? = some o → ∀ e ∈ o.after.toList, e.on < j) ∧
    ∀ (i j : Nat) (oi oj : Oper), ops[i]? = some oi → ops[j]? = some oj → i < j → ((Region.before ops).getD j 0).testBit i = true ∨ ((touches C.still oi + touches C.still oj < 3 ∨ early C.still ops oi oj i j = true) ∧ oi.apart ops oj = true) := by
  unfold okDraw at h
  simp only [List.all_eq_true] at h
  have hmem : ∀ (j : Nat) (o : Oper), ops[j]? = some o → (o, j) ∈ ops.toList.zipIdx := by
    intro j o ho
    rw [List.mem_zipIdx_iff_getElem?]
    simpa using ho
  constructor
  · intro j o ho e he
    have := h _ (hmem j o ho)
    simp only [Bool.and_eq_true, Array.all_eq_true_iff_forall_mem, decide_eq_true_eq] at this
    exact this.1.1 e (by simpa using he)
  · intro i j oi oj hi hj hij
    have := h _ (hmem j oj hj)
    simp only [Bool.and_eq_true, List.all_eq_true] at this
    have := this.2 _ (hmem i oi hi)
    simp only [Bool.or_eq_true, Bool.not_eq_true', decide_eq_false_iff_not, Bool.and_eq_true (a := _ || _), decide_eq_true_eq, waits] at this
    rcases this with (h1 | h1) | h1
    · omega
    · exact .inl h1
    · exact .inr h1

/-- One operation, at its own time. -/
theorem step_ok (hT : TOk P T) (hC : CallsOk P C) {o : Oper} {f : Nat → AV} {h h' : Hp} {B : Nat} {E : En} {a : Act} {v : AV} {b : Bool} {M : Act → World → Prop} {Q : Exit → Act → World → Prop}
    (s : SRel h B E) (fr : FRel E nt f a) (hd : ∀ t, o.dst = some t → t < nt) (hw : want ops o f = some b) (hr : b = true → evOp T C o (rhoOf f) h = some (v, h')) (hs : b = false → v = .lit undef ∧ h' = h)
    (hM : ∀ E' a', SRel h' B E' → Stp h h' E E' → FRel E' nt (fun t => if o.dst = some t then v else f t) a' → M a' E'.w) :
    if Region.wanted o (yielded ops a.tmps) then o.wp P a E.w M Q else M (a.put o.dst undef) E.w := by
  rw [fr.wanted hw]
  cases b with
  | true =>
    rw [if_pos rfl]
    refine op_ok hT hC (hr rfl) s fr.rho fun E' u s' st rv => ?_
    exact hM E' _ s' st ((fr.ext (Stp.ext s s' st)).put hd rv)
  | false =>
    rw [if_neg (by simp)]
    obtain ⟨rfl, rfl⟩ := hs rfl
    exact hM E _ s (Stp.refl _ _) (fr.put hd (.lit _))

/-- In the text's order. -/
theorem list_ok (hT : TOk P T) (hC : CallsOk P C) {B : Nat} {Q : Exit → Act → World → Prop} {h0 : Hp} {E0 : En} (hlo : h0.lo ≤ h0.next) : ∀ (l : List Oper) (L0 L1 : Loc) (h h1 : Hp) (E : En) (a : Act),
    evOps T C ops K nt s l L0 h = some (L1, h1) → SRel h B E → Stp h0 h E0 E → FRel E nt (look L0 s K) a →
    (∀ E' a', SRel h1 B E' → Stp h0 h1 E0 E' → FRel E' nt (look L1 s K) a' → Q .normal a' E'.w) → wpList P ops Q l a E.w := by
  intro l
  induction l with
  | nil =>
    intro L0 L1 h h1 E a he sr st fr hQ
    simp only [evOps, Option.some.injEq, Prod.mk.injEq] at he
    obtain ⟨rfl, rfl⟩ := he
    exact hQ E a sr st fr
  | cons o l ih =>
    intro L0 L1 h h1 E a he sr st fr hQ
    simp only [evOps] at he
    split at he
    · rename_i hd
      have hd' : ∀ t, o.dst = some t → t < nt := fun t ht => by rw [ht] at hd; simpa [dstOk] using hd
      refine wpList_step fun M hM => ?_
      have go : ∀ (v : AV) (hx : Hp), evOps T C ops K nt s l (bindL o.dst v L0) hx = some (L1, h1) → ∀ E' a', SRel hx B E' → Stp h hx E E' → FRel E' nt (fun t => if o.dst = some t then v else look L0 s K t) a' → M a' E'.w := by
        intro v hx hrest E' a' s' st' fr'
        exact hM a' E'.w (ih _ _ _ _ E' a' hrest s' (Stp.trans hlo st st') (fr'.congr fun t => (look_bind K s o.dst v L0 t).symm) hQ)
      split at he
      · cases he
      · rename_i hw
        exact step_ok (v := .lit undef) (h' := h) hT hC sr fr hd' hw (by simp) (fun _ => ⟨rfl, rfl⟩) (go _ _ he)
      · rename_i hw
        split at he
        · cases he
        · rename_i v hx hev
          exact step_ok hT hC sr fr hd' hw (fun _ => hev) (by simp) (go _ _ he)
    · cases he

/-- The operations that haven't come up. -/
def unl (n : Nat) (D : Array Bool) : List Nat := (List.range n).filter fun j => !D.getD j true

theorem unl_set {n i : Nat} {D : Array Bool} (hi : i < n) (h : D.getD i true = false) : (unl n (D.setIfInBounds i true)).length < (unl n D).length := by
  have hlt : i < D.size := by
    rcases Nat.lt_or_ge i D.size with h' | h'
    · exact h'
    · rw [Array.getD_eq_getD_getElem?, Array.getElem?_eq_none h'] at h; simp at h
  have e : unl n (D.setIfInBounds i true) = (unl n D).filter (fun j => j != i) := by
    unfold unl
    rw [List.filter_filter]
    refine List.filter_congr fun j _ => ?_
    by_cases hj : i = j
    · subst hj
      simp [hlt]
    · rw [getD_set_ne true hj]
      have : (j != i) = true := by simpa using fun e => hj e.symm
      simp [this]
  rw [e]
  have hmem : i ∈ unl n D := by
    unfold unl
    rw [List.mem_filter, List.mem_range]
    exact ⟨hi, by rw [h]; rfl⟩
  exact List.length_filter_lt_length_iff_exists.2 ⟨i, hmem, by simp⟩

theorem early_spec {oi oj : Oper} {i j : Nat} (h : early C.still ops oi oj i j = true) : touches C.still oi = 1 ∧ touches C.still oj = 2 ∧ (∃ d, oi.dst = some d) ∧
    ∀ (k : Nat) (ok : Oper) (d : Tmp), i ≤ k → k < j → ops[k]? = some ok → ok.dst = some d → d ∉ oi.looksAt ops ∧ (k ≠ i → oi.dst ≠ some d) := by
  unfold early steady at h
  simp only [Bool.and_eq_true, beq_iff_eq, List.all_eq_true, List.mem_range] at h
  obtain ⟨⟨h1, h2⟩, h3, h4⟩ := h
  refine ⟨h1, h2, Option.isSome_iff_exists.1 h3, fun k ok d hk hj ho hd => ?_⟩
  have := h4 k hj
  simp only [ho, hd, Bool.or_eq_true, decide_eq_true_eq, Bool.and_eq_true, Bool.not_eq_true', List.contains_eq_mem, decide_eq_false_iff_not, beq_iff_eq, bne_iff_ne] at this
  rcases this with h | ⟨h5, h6⟩
  · omega
  · exact ⟨h5, fun hne => h6.resolve_left hne⟩

/-- The checks along a trace. -/
theorem chk_tr (hb : ∀ (j : Nat) (o : Oper), ops.toList[j]? = some o → want ops o (look (L j) s K) = some (W j))
    (hr : ∀ (j : Nat) (o : Oper), ops.toList[j]? = some o → W j = true → evOp T C o (rho (L j) s K) (H j) = some (V j, H (j + 1)))
    (hs : ∀ (j : Nat) (o : Oper), ops.toList[j]? = some o → W j = false → V j = .lit undef ∧ H (j + 1) = H j)
    (hl : ∀ (j : Nat) (o : Oper), ops.toList[j]? = some o → L (j + 1) = bindL o.dst (V j) (L j)) :
    ∀ (l : List Oper) (n : Nat), (∀ j, l[j]? = ops.toList[n + j]?) → chk T C ops K s l n (L n) (H n) → ∀ j, j < l.length → again T C ops K s (n + j) (L (n + j)) (H (n + j + 1)) := by
  intro l
  induction l with
  | nil => intro n _ _ j hj; simp at hj
  | cons o l ih =>
    intro n hn hc j hj
    have ho : ops.toList[n]? = some o := by have := hn 0; simpa using this.symm
    have hn' : ∀ j, l[j]? = ops.toList[n + 1 + j]? := fun j => by have := hn (j + 1); rw [show n + 1 + j = n + (j + 1) by omega, ← this]; rfl
    simp only [chk, hb n o ho] at hc
    have both : again T C ops K s n (L n) (H (n + 1)) ∧ chk T C ops K s l (n + 1) (L (n + 1)) (H (n + 1)) := by
      rw [hl n o ho]
      cases hw : W n with
      | false =>
        obtain ⟨h1, h2⟩ := hs n o ho hw
        simp only [hw] at hc
        rw [h1, h2]
        exact hc
      | true =>
        simp only [hw, hr n o ho hw] at hc
        exact hc
    cases j with
    | zero => exact both.1
    | succ j =>
      have := ih (n + 1) hn' both.2 j (by simpa using hj)
      rw [show n + (j + 1) = n + 1 + j by omega]
      exact this

theorem draw_ok (hT : TOk P T) (hC : CallsOk P C) {B : Nat} {Q : Exit → Act → World → Prop} {h0 : Hp} {E0 : En} (hlo : h0.lo ≤ h0.next) (hok : okDraw C.still ops = true) (hchk : chk T C ops K s ops.toList 0 [] h0)
    (tr : Tr T C ops K nt s ops.toList V W H L) (hL : L 0 = []) (hH : H 0 = h0)
    (hQ : ∀ E' a', SRel (H ops.size) B E' → Stp h0 (H ops.size) E0 E' → FRel E' nt (look (L ops.size) s K) a' → Q .normal a' E'.w) :
    ∀ (fuel : Nat) (D : Array Bool) (E : En) (a : Act), D.size = ops.size → (unl ops.size D).length ≤ fuel →
      (∀ (j : Nat) (o : Oper), D.getD j false = true → ops[j]? = some o → ∀ e ∈ o.after.toList, Region.binds .any e = true → D.getD e.on false = true) →
      SRel (hpN C.still ops H (fun k => D.getD k false) ops.size) B E → Stp h0 (hpN C.still ops H (fun k => D.getD k false) ops.size) E0 E →
      FRel E nt (lookN ops V (look [] s K) (fun k => D.getD k false) ops.size) a → wpAny P .any ops Q fuel D a E.w := by
  obtain ⟨hback, hpair⟩ := okDraw_spec hok
  have hDt : ∀ (D : Array Bool) (j : Nat), D.size = ops.size → j < ops.size → D.getD j true = D.getD j false := by
    intro D j hs hj
    simp [show j < D.size by omega]
  -- nothing is ready: all have come up
  have allUp : ∀ (D : Array Bool), D.size = ops.size → Region.ready .any ops D = [] → ∀ j, j < ops.size → D.getD j false = true := by
    intro D hs hr j
    induction j using Nat.strongRecOn with
    | _ j ih =>
      intro hj
      cases hd : D.getD j false with
      | true => rfl
      | false =>
        have : j ∈ Region.ready .any ops D := mem_ready.2 ⟨by rw [hDt D j hs hj]; exact hd, ops[j], by simp [hj], fun e he _ => ih e.on (hback j ops[j] (by simp [hj]) e (by simpa using he)) (by have := hback j ops[j] (by simp [hj]) e (by simpa using he); omega)⟩
        rw [hr] at this
        cases this
  have done : ∀ (D : Array Bool) (E : En) (a : Act), D.size = ops.size → Region.ready .any ops D = [] → SRel (hpN C.still ops H (fun k => D.getD k false) ops.size) B E → Stp h0 (hpN C.still ops H (fun k => D.getD k false) ops.size) E0 E →
      FRel E nt (lookN ops V (look [] s K) (fun k => D.getD k false) ops.size) a → Q .normal a E.w := by
    intro D E a hs hr sr st fr
    have hall := allUp D hs hr
    have e1 : hpN C.still ops H (fun k => D.getD k false) ops.size = H ops.size := by
      rw [tr.hp ops.size (Nat.le_refl _)]
      exact hpN_eq _ fun k hk _ => hall k hk
    rw [e1] at sr st
    refine hQ E a sr st (fr.congr fun t => ?_)
    rw [tr.look hL ops.size (Nat.le_refl _) t]
    exact lookN_eq _ fun k hk _ => hall k hk
  intro fuel
  induction fuel with
  | zero =>
    intro D E a hs hf _ sr st fr
    have hr : Region.ready .any ops D = [] := by
      cases hrr : Region.ready .any ops D with
      | nil => rfl
      | cons i l =>
        have hi : i ∈ Region.ready .any ops D := by rw [hrr]; simp
        obtain ⟨h1, o, ho, _⟩ := mem_ready.1 hi
        have : i ∈ unl ops.size D := by
          unfold unl
          rw [List.mem_filter, List.mem_range]
          exact ⟨(Array.getElem?_eq_some_iff.1 ho).1, by rw [h1]; rfl⟩
        have hnil : unl ops.size D = [] := List.eq_nil_of_length_eq_zero (by omega)
        rw [hnil] at this
        cases this
    exact ⟨hr, done D E a hs hr sr st fr⟩
  | succ fuel ih =>
    intro D E a hs hf hcl sr st fr
    refine ⟨fun hr => done D E a hs hr sr st fr, fun i hi => ?_⟩
    obtain ⟨hun, o, ho, hpre⟩ := mem_ready.1 hi
    have hin : i < ops.size := (Array.getElem?_eq_some_iff.1 ho).1
    have hof : ops.toList[i]? = some o := by simpa using ho
    have hunf : D.getD i false = false := by rw [← hDt D i hs hin]; exact hun
    -- what must be there before i, and what must wait for it
    have before : ∀ j, ((Region.before ops).getD i 0).testBit j = true → D.getD j false = true :=
      before_closed (D := fun j => D.getD j false = true) (fun j o' hj ho' e he hb => hcl j o' hj ho' e he hb) i i o (Nat.le_refl _) ho (fun e he hb => hpre e (by simpa using he) hb)
    have behind : ∀ j o', ops[j]? = some o' → ((Region.before ops).getD j 0).testBit i = true → D.getD j false = false := by
      intro j o' ho' hb
      cases hd : D.getD j false with
      | false => rfl
      | true =>
        have := before_closed (D := fun j => D.getD j false = true) (fun j o' hj ho' e he hb => hcl j o' hj ho' e he hb) j j o' (Nat.le_refl _) ho' (fun e he hb => hcl j o' hd ho' e he hb) i hb
        rw [hunf] at this
        cases this
    have getop : ∀ (k t : Nat), (ops[k]?).bind (·.dst) = some t → ∃ o' : Oper, ops[k]? = some o' ∧ o'.dst = some t := fun k t h => Option.bind_eq_some_iff.1 h
    -- the tmps that it looks at
    have hlook : ∀ t ∈ o.looksAt ops, lookN ops V (look [] s K) (fun k => D.getD k false) ops.size t = look (L i) s K t := by
      intro t ht
      rw [tr.look hL i (by omega) t, ← lookN_below ops.size (by omega)]
      refine lookN_eq _ fun k hk hdst => ?_
      obtain ⟨o', ho', hd'⟩ := getop k t hdst
      rcases Nat.lt_trichotomy k i with hlt | rfl | hgt
      · rcases hpair k i o' o ho' ho hlt with h1 | ⟨_, h1⟩
        · rw [before k h1]; simp [hlt]
        · exact absurd ht ((Oper.apart_spec h1).1 t hd')
      · simp only [hunf]; simp
      · rcases hpair i k o o' ho ho' hgt with h1 | ⟨_, h1⟩
        · rw [behind k o' ho' h1]; simp; omega
        · exact absurd ht ((Oper.apart_spec h1).2.2 t hd')
    -- the heap that it looks at
    have hheap : touches C.still o ≠ 0 → (touches C.still o = 1 → ∀ j, i < j → j < ops.size → touchN C.still ops j = true → D.getD j false = false) → hpN C.still ops H (fun k => D.getD k false) ops.size = H i := by
      intro h0 hlate
      rw [tr.hp i (by omega), ← hpN_below ops.size (by omega)]
      refine hpN_eq _ fun k hk ht => ?_
      have ho' : ops[k]? = some ops[k] := by simp [hk]
      have h2 : touches C.still ops[k] = 2 := by simpa [touchN, hk] using ht
      rcases Nat.lt_trichotomy k i with hlt | rfl | hgt
      · rcases hpair k i _ o ho' ho hlt with h1 | ⟨h1 | h1, _⟩
        · rw [before k h1]; simp [hlt]
        · omega
        · have := (early_spec h1).1; omega
      · simp only [hunf]; simp
      · rcases hpair i k o _ ho ho' hgt with h1 | ⟨h1 | h1, _⟩
        · rw [behind k _ ho' h1]; simp; omega
        · omega
        · rw [hlate (early_spec h1).1 k hgt hk ht]; simp; omega
    have hset : ∀ k, (D.setIfInBounds i true).getD k false = if k = i then true else D.getD k false := by
      intro k
      by_cases e : i = k
      · subst e
        simp [show i < D.size by omega]
      · rw [getD_set_ne false e, if_neg (fun h => e h.symm)]
    -- what it leaves
    have hafterL : ∀ t, lookN ops V (look [] s K) (fun k => (D.setIfInBounds i true).getD k false) ops.size t = if o.dst = some t then V i else lookN ops V (look [] s K) (fun k => D.getD k false) ops.size t := by
      intro t
      by_cases hd : o.dst = some t
      · rw [if_pos hd]
        refine lookN_set (by simp [ho, hd]) ops.size hin (fun k h1 h2 h3 => ?_) (by rw [hset]; simp)
        obtain ⟨o', ho', hd'⟩ := getop k t h3
        rw [hset, if_neg (by omega)]
        rcases hpair i k o o' ho ho' h1 with h4 | ⟨_, h4⟩
        · exact behind k o' ho' h4
        · exact absurd hd' ((Oper.apart_spec h4).2.1 t hd)
      · rw [if_neg hd]
        refine lookN_eq _ fun k hk hdst => ?_
        rw [hset]
        by_cases e : k = i
        · subst e
          obtain ⟨o', ho', hd'⟩ := getop k t hdst
          rw [ho] at ho'
          injection ho' with ho'
          subst ho'
          exact absurd hd' hd
        · rw [if_neg e]
    have hafterH : ∀ h', (touches C.still o = 2 → h' = H (i + 1)) → (touches C.still o ≠ 2 → h' = hpN C.still ops H (fun k => D.getD k false) ops.size) → hpN C.still ops H (fun k => (D.setIfInBounds i true).getD k false) ops.size = h' := by
      intro h' h1 h2
      by_cases ht : touches C.still o = 2
      · rw [h1 ht]
        refine hpN_set (by simp [touchN, ho, ht]) ops.size hin (fun k h3 h4 h5 => ?_) (by rw [hset]; simp)
        rw [hset, if_neg (by omega)]
        have ho' : ops[k]? = some ops[k] := by simp [h4]
        have h6 : touches C.still ops[k] = 2 := by simpa [touchN, h4] using h5
        rcases hpair i k o _ ho ho' h3 with h7 | ⟨h7 | h7, _⟩
        · exact behind k _ ho' h7
        · omega
        · have := (early_spec h7).1; omega
      · rw [h2 ht]
        refine hpN_eq _ fun k hk hk2 => ?_
        rw [hset]
        by_cases e : k = i
        · subst e
          have : touches C.still o = 2 := by simpa [touchN, ho] using hk2
          exact absurd this ht
        · rw [if_neg e]
    have hw : want ops o (lookN ops V (look [] s K) (fun k => D.getD k false) ops.size) = some (W i) := by
      rw [want_looks hlook]
      exact tr.want i o hof
    have next : ∀ h', hpN C.still ops H (fun k => (D.setIfInBounds i true).getD k false) ops.size = h' → ∀ E' a', SRel h' B E' → Stp (hpN C.still ops H (fun k => D.getD k false) ops.size) h' E E' →
        FRel E' nt (fun t => if o.dst = some t then V i else lookN ops V (look [] s K) (fun k => D.getD k false) ops.size t) a' → wpAny P .any ops Q fuel (D.setIfInBounds i true) a' E'.w := by
      intro h' hh E' a' s' st' fr'
      refine ih (D.setIfInBounds i true) E' a' (by simp [hs]) ?_ ?_ (by rw [hh]; exact s') (by rw [hh]; exact Stp.trans hlo st st') (fr'.congr fun t => (hafterL t).symm)
      · have := unl_set hin hun
        omega
      · intro j o' hj ho' e he hb
        rw [hset] at hj ⊢
        by_cases ej : j = i
        · subst ej
          rw [ho] at ho'
          injection ho' with ho'
          subst ho'
          have := hpre e (by simpa using he) hb
          split
          · rfl
          · exact this
        · rw [if_neg ej] at hj
          have := hcl j o' hj ho' e he hb
          split
          · rfl
          · exact this
    unfold wpOp
    rw [ho]
    simp only
    have main : ∀ h', hpN C.still ops H (fun k => (D.setIfInBounds i true).getD k false) ops.size = h' →
        (W i = true → evOp T C o (rhoOf (lookN ops V (look [] s K) (fun k => D.getD k false) ops.size)) (hpN C.still ops H (fun k => D.getD k false) ops.size) = some (V i, h')) →
        (W i = false → V i = .lit undef ∧ h' = hpN C.still ops H (fun k => D.getD k false) ops.size) →
        if Region.wanted o (yielded ops a.tmps) then o.wp P a E.w (wpAny P .any ops Q fuel (D.setIfInBounds i true)) Q ∨ (o.asks P a E.w ∧ LetsOut Q) else wpAny P .any ops Q fuel (D.setIfInBounds i true) (a.put o.dst undef) E.w := by
      intro h' hh hr hs'
      have := step_ok (M := wpAny P .any ops Q fuel (D.setIfInBounds i true)) (Q := Q) hT hC sr fr (tr.dst i o hof) hw hr hs' (next h' hh)
      split
      · rename_i c; rw [if_pos c] at this; exact .inl this
      · rename_i c; rw [if_neg c] at this; exact this
    by_cases ht : touches C.still o = 2
    · have hhp := hheap (by omega) (fun c => by omega)
      refine main (H (i + 1)) (hafterH _ (fun _ => rfl) (fun c => absurd ht c)) (fun hwi => ?_) (fun hwi => ?_)
      · rw [evOp_looks hlook, hhp]
        exact tr.run i o hof hwi
      · obtain ⟨h1, h2⟩ := tr.skip i o hof hwi
        exact ⟨h1, by rw [hhp]; exact h2⟩
    · refine main _ (hafterH _ (fun c => absurd c ht) (fun _ => rfl)) (fun hwi => ?_) (fun hwi => ⟨(tr.skip i o hof hwi).1, rfl⟩)
      rw [evOp_looks hlook]
      have hrun := tr.run i o hof hwi
      by_cases h0 : touches C.still o = 0
      · exact evOp_blind hrun h0 _
      · rcases hpN_cases (S := C.still) (ops := ops) (H := H) (D := fun k => D.getD k false) i ops.size with ⟨j, g1, g2, g3, g4, g5⟩ | hlate
        · have ho' : ops[j]? = some ops[j] := by simp [g2]
          have ht2 : touches C.still ops[j] = 2 := by simpa [touchN, g2] using g4
          rcases hpair i j o _ ho ho' g1 with h1 | ⟨h1 | h1, _⟩
          · have := behind j _ ho' h1
            rw [this] at g3
            cases g3
          · omega
          · obtain ⟨q1, q2, ⟨d, hd⟩, q4⟩ := early_spec h1
            rw [g5]
            have hL0 : (L 0 : Loc) = [] := hL
            have hag := chk_tr tr.want tr.run tr.skip tr.loc ops.toList 0 (fun j => by rw [Nat.zero_add]) (by rw [hL, hH]; exact hchk) j (by simpa using g2)
            rw [Nat.zero_add] at hag
            have hlk : ∀ t ∈ o.looksAt ops, look (L j) s K t = look (L i) s K t := by
              intro t ht'
              rw [tr.look hL j (by omega) t, tr.look hL i (by omega) t]
              rw [← lookN_below (i := i) j (by omega)]
              refine lookN_eq _ fun k hk hdst => ?_
              by_cases hki : k < i
              · simp [hki]
              · obtain ⟨o', ho2, hd'⟩ := getop k t hdst
                exact absurd ht' (q4 k o' t (by omega) hk ho2 hd').1
            have hvi : look (L j) s K d = V i := by
              rw [tr.look hL j (by omega) d]
              refine lookN_set (by simp [ho, hd]) j g1 (fun k h3 h4 h5 => ?_) rfl
              obtain ⟨o', ho2, hd'⟩ := getop k d h5
              exact absurd hd ((q4 k o' d (by omega) h4 ho2 hd').2 (by omega))
            have hmem : i ∈ bads C.still ops j := by
              unfold bads
              rw [List.mem_filter, List.mem_range]
              refine ⟨g1, ?_⟩
              have hnw : waits (Region.before ops) i j = false := by
                cases hq : waits (Region.before ops) i j with
                | false => rfl
                | true =>
                  have := behind j _ ho' hq
                  rw [this] at g3
                  cases g3
              simp [hnw, ho, ho', q1, q2]
            have := hag i hmem o d ho hd (by rw [want_looks hlk]; rw [← hwi]; exact tr.want i o hof)
            rw [hvi] at this
            rw [← this]
            exact (evOp_looks hlk).symm
        · rw [hheap h0 (fun _ => hlate)]
          have := evOp_still (fun _ => rfl) hrun ht
          rw [this] at hrun
          exact hrun

theorem region_ok (hT : TOk P T) (hC : CallsOk P C) (hm : P.follows .mixedOrders = true) {id : Nat} {draw : Bool} {h h' : Hp} {s' : Fr} {ex : Ex} {B : Nat} {E : En} {a : Act} {Q : Exit → Act → World → Prop}
    (he : evReg T C K nt ops draw s h = some (ex, s', h')) (sr : SRel h B E) (fr : FRel E nt (fun t => if K t then s t else .junk) a)
    (hQ : ∀ E' a', SRel h' B E' → Stp h h' E E' → FRel E' nt (fun t => if K t then s' t else .junk) a' → Q .normal a' E'.w) : ex = .normal ∧ (Code.region id ops draw).wp P Q a E.w := by
  unfold evReg at he
  split at he
  · cases he
  · rename_i hok
    split at he
    · cases he
    rename_i hdyn
    split at he
    · rename_i l h1 hev
      simp only [Option.some.injEq, Prod.mk.injEq] at he
      obtain ⟨rfl, rfl, rfl⟩ := he
      refine ⟨rfl, ?_⟩
      have hcommit : ∀ (l : Loc) (t : Nat), (if K t then commit K l s t else .junk) = (if K t then look l s K t else .junk) := by
        intro l t
        by_cases hk : K t = true
        · rw [if_pos hk, if_pos hk]
          induction l with
          | nil => simp [commit, look, hk]
          | cons p l ih =>
            obtain ⟨u, v⟩ := p
            simp only [commit, look]
            by_cases e : t = u
            · subst e
              rw [if_pos hk, if_pos rfl]
              simp [upd]
            · rw [if_neg e]
              split
              · simp only [upd]; rw [if_neg e]; exact ih
              · exact ih
        · rw [if_neg hk, if_neg hk]
      have fr0 : FRel E nt (look [] s K) a := fr
      have fin : ∀ E' a', SRel h1 B E' → Stp h h1 E E' → FRel E' nt (look l s K) a' → Q .normal a' E'.w := by
        intro E' a' s' st' fr'
        refine hQ E' a' s' st' ⟨fr'.size, fr'.defers, fun t => ?_⟩
        show VRel E' (if K t then commit K l s t else .junk) _
        rw [hcommit]
        split
        · exact fr'.rel t
        · exact .junk _
      cases draw with
      | false => exact wp_region_list (list_ok hT hC sr.lo ops.toList [] l h h1 E a hev sr (Stp.refl _ _) fr0 fin)
      | true =>
        have hok' : okDraw C.still ops = true := by simpa using hok
        obtain ⟨V, W, H, L, e1, e2, e3, e4, tr⟩ := evOps_tr _ _ _ _ _ hev
        have hlen : ops.toList.length = ops.size := by simp
        rw [hlen] at e3 e4
        obtain ⟨sr1, st1, x1⟩ := sr.grow (w' := { E.w with drawn := E.w.drawn + 1 }) (Keeps.drew _ _)
        have hnone : ∀ k, (Array.replicate ops.size false).getD k false = false := by
          intro k
          rw [Array.getD_eq_getD_getElem?, Array.getElem?_replicate]
          split <;> rfl
        have hz : hpN C.still ops H (fun k => (Array.replicate ops.size false).getD k false) ops.size = h := by
          have key : ∀ n, hpN C.still ops H (fun k => (Array.replicate ops.size false).getD k false) n = h := by
            intro n
            induction n with
            | zero => exact e2
            | succ n ih => simp only [hpN]; rw [if_neg (fun c => by rw [hnone] at c; cases c.1)]; exact ih
          exact key _
        have hl0 : ∀ t, lookN ops V (look [] s K) (fun k => (Array.replicate ops.size false).getD k false) ops.size t = look [] s K t := by
          intro t
          have key : ∀ n, lookN ops V (look [] s K) (fun k => (Array.replicate ops.size false).getD k false) n t = look [] s K t := by
            intro n
            induction n with
            | zero => rfl
            | succ n ih => simp only [lookN]; rw [if_neg (fun c => by rw [hnone] at c; cases c.1)]; exact ih
          exact key _
        refine wp_region_any hm ?_
        have hchk : chk T C ops K s ops.toList 0 [] h := Classical.byContradiction fun c => hdyn ⟨rfl, c⟩
        refine draw_ok (E0 := E) hT hC (B := B) sr.lo hok' hchk tr e1 e2 (fun E' a' s' st' fr' => ?_) ops.size _ (E.at { E.w with drawn := E.w.drawn + 1 }) a (by simp) ?_ ?_ ?_ ?_ ?_
        · rw [e4] at s' st'
          rw [e3] at fr'
          exact fin E' a' s' st' fr'
        · unfold unl
          exact Nat.le_trans (List.length_filter_le _ _) (by simp)
        · intro j o hj
          rw [hnone] at hj
          cases hj
        · rw [hz]; exact sr1
        · rw [hz]; exact st1
        · exact (fr0.ext x1).congr fun t => (hl0 t).symm
    · cases he
end
end Go.Proofs.Ev
end
section
/- Code, bodies, calls: the evaluator is sound. -/
set_option linter.unusedVariables false
set_option linter.unusedSimpArgs false
namespace Go.Proofs.Ev
open Go Go.RowKit

def Ex.to : Ex → Exit
  | .normal => .normal
  | .exit id => .exit id
  | .ret => .ret

theorem Loop_some {b : Fr → Hp → R} {s : Fr} {h : Hp} {r : Ex × Fr × Hp} (e : Loop b s h = some r) : ∃ n, loopN b n s h = some r := by
  unfold Loop at e
  split at e
  · rename_i H
    have := H.choose_spec.choose_spec
    rw [Option.some.inj e] at this
    exact ⟨_, this⟩
  · cases e

abbrev keepF (K : Nat → Bool) (s : Fr) : Nat → AV := fun t => if K t then s t else .junk

section
variable {P : Program} {T : TT} {C : CT} {K : Nat → Bool} {nt : Nat}

theorem code_ok (hT : TOk P T) (hC : CallsOk P C) (hm : P.follows .mixedOrders = true) (B : Nat) : ∀ (c : Code) (s s' : Fr) (h h' : Hp) (ex : Ex) (E : En) (a : Act) (Q : Exit → Act → World → Prop),
    ev T C K nt c s h = some (ex, s', h') → SRel h B E → FRel E nt (keepF K s) a →
    (∀ E' a', SRel h' B E' → Stp h h' E E' → FRel E' nt (keepF K s') a' → Q ex.to a' E'.w) → c.wp P Q a E.w := by
  intro c
  induction c with
  | skip =>
    intro s s' h h' ex E a Q he sr fr hQ
    simp only [ev, Option.some.injEq, Prod.mk.injEq] at he
    obtain ⟨rfl, rfl, rfl⟩ := he
    exact wp_skip (hQ E a sr (Stp.refl _ _) fr)
  | region id ops draw =>
    intro s s' h h' ex E a Q he sr fr hQ
    simp only [ev] at he
    obtain ⟨rfl, hw⟩ := region_ok (id := id) (Q := Q) hT hC hm he sr fr (fun E' a' s1 st fr1 => by
      have hex : ex = .normal := by
        unfold evReg at he
        split at he
        · cases he
        · split at he
          · cases he
          · split at he
            · simp only [Option.some.injEq, Prod.mk.injEq] at he; exact he.1.symm
            · cases he
      have := hQ E' a' s1 st fr1
      rw [hex] at this
      exact this)
    exact hw
  | seq x y ihx ihy =>
    intro s s' h h' ex E a Q he sr fr hQ
    simp only [ev, seqR] at he
    refine wp_seq ?_
    split at he
    · rename_i s1 h1 hx
      refine ihx s s1 h h1 .normal E a _ hx sr fr fun E1 a1 sr1 st1 fr1 => ?_
      show y.wp P Q a1 E1.w
      exact ihy s1 s' h1 h' ex E1 a1 Q he sr1 fr1 fun E2 a2 sr2 st2 fr2 => hQ E2 a2 sr2 (Stp.trans sr.lo st1 st2) fr2
    · rename_i hne
      refine ihx s s' h h' ex E a _ he sr fr fun E1 a1 sr1 st1 fr1 => ?_
      have := hQ E1 a1 sr1 st1 fr1
      cases ex with
      | normal => exact absurd he (by simpa using hne s' h')
      | exit id => exact this
      | ret => exact this
  | cond c x y ihx ihy =>
    intro s s' h h' ex E a Q he sr fr hQ
    simp only [ev, condR] at he
    have hc := fr.rho c
    split at he
    · rename_i hb
      have hb' : rhoOf (keepF K s) c = .lit (.bool true) := hb
      rw [hb'] at hc
      generalize hu : a.eval c = u at hc
      cases hc
      exact wp_cond_true hu (ihx s s' h h' ex E a Q he sr fr hQ)
    · rename_i hb
      have hb' : rhoOf (keepF K s) c = .lit (.bool false) := hb
      rw [hb'] at hc
      generalize hu : a.eval c = u at hc
      cases hc
      exact wp_cond_false hu (ihy s s' h h' ex E a Q he sr fr hQ)
    · cases he
  | block id c ih =>
    intro s s' h h' ex E a Q he sr fr hQ
    simp only [ev, blockR] at he
    refine wp_block ?_
    split at he
    · rename_i id' s1 h1 hx
      split at he
      · rename_i hid
        simp only [Option.some.injEq, Prod.mk.injEq] at he
        obtain ⟨rfl, rfl, rfl⟩ := he
        refine ih s s1 h h1 (.exit id') E a _ hx sr fr fun E1 a1 sr1 st1 fr1 => ?_
        show Exit.inBlock id Q (.exit id') a1 E1.w
        simp only [Exit.inBlock, hid, if_true]
        exact hQ E1 a1 sr1 st1 fr1
      · rename_i hid
        simp only [Option.some.injEq, Prod.mk.injEq] at he
        obtain ⟨rfl, rfl, rfl⟩ := he
        refine ih s s1 h h1 (.exit id') E a _ hx sr fr fun E1 a1 sr1 st1 fr1 => ?_
        show Exit.inBlock id Q (.exit id') a1 E1.w
        simp only [Exit.inBlock, hid, if_false]
        exact hQ E1 a1 sr1 st1 fr1
    · rename_i hne
      refine ih s s' h h' ex E a _ he sr fr fun E1 a1 sr1 st1 fr1 => ?_
      have := hQ E1 a1 sr1 st1 fr1
      cases ex with
      | normal => exact this
      | exit id => exact absurd he (by simpa using hne id s' h')
      | ret => exact this
  | loop c ih =>
    intro s s' h h' ex E a Q he sr fr hQ
    simp only [ev] at he
    obtain ⟨n, hn⟩ := Loop_some he
    refine wp_loop_rounds n ?_
    have key : ∀ (n : Nat) (s : Fr) (h : Hp) (E : En) (a : Act), loopN (fun s h => ev T C K nt c s h) n s h = some (ex, s', h') → SRel h B E → FRel E nt (keepF K s) a →
        (∀ E' a', SRel h' B E' → Stp h h' E E' → FRel E' nt (keepF K s') a' → Q ex.to a' E'.w) → Code.rounds P c Q n a E.w := by
      intro n
      induction n with
      | zero => intro s h E a hn; simp [loopN] at hn
      | succ n ihn =>
        intro s h E a hn sr fr hQ
        rw [rounds_succ]
        simp only [loopN] at hn
        split at hn
        · rename_i s1 h1 hx
          refine ih s s1 h h1 .normal E a _ hx sr fr fun E1 a1 sr1 st1 fr1 => ?_
          show Code.rounds P c Q n a1 E1.w
          exact ihn s1 h1 E1 a1 hn sr1 fr1 fun E2 a2 sr2 st2 fr2 => hQ E2 a2 sr2 (Stp.trans sr.lo st1 st2) fr2
        · rename_i hne
          refine ih s s' h h' ex E a _ hn sr fr fun E1 a1 sr1 st1 fr1 => ?_
          have := hQ E1 a1 sr1 st1 fr1
          cases ex with
          | normal => exact absurd hn (by simpa using hne s' h')
          | exit id => exact this
          | ret => exact this
    exact key n s h E a hn sr fr hQ
  | exit id =>
    intro s s' h h' ex E a Q he sr fr hQ
    simp only [ev, Option.some.injEq, Prod.mk.injEq] at he
    obtain ⟨rfl, rfl, rfl⟩ := he
    exact wp_exit (hQ E a sr (Stp.refl _ _) fr)
  | ret =>
    intro s s' h h' ex E a Q he sr fr hQ
    simp only [ev, Option.some.injEq, Prod.mk.injEq] at he
    obtain ⟨rfl, rfl, rfl⟩ := he
    exact wp_ret (hQ E a sr (Stp.refl _ _) fr)
  | _ =>
    intro s s' h h' ex E a Q he
    simp only [ev] at he
    cases he

/-- The results. -/
theorem results_ok (hT : TOk P T) {h : Hp} {B : Nat} {E : En} (sr : SRel h B E) {s : Fr} {a : Act} (fr : FRel E nt (keepF K s) a) {fn : Func} {vs : List AV} (he : allSome (resOf T K s h) fn.results.toList = some vs) :
    ∃ u, (results fn a.tmps).run P E.w = .ok u E.w ∧ VRel E (results1 vs) u := by
  have one : ∀ (r : ResultVar) (v : AV), resOf T K s h r = some v → ∃ u, ((match r with
      | .tmp t => pure (a.tmps.getD t undef)
      | .cell b t => do loadVar t (← asAddr (a.tmps.getD b undef))) : Sem Value).run P E.w = .ok u E.w ∧ VRel E v u := by
    intro r v hr
    cases r with
    | tmp t =>
      simp only [resOf] at hr
      split at hr
      · rename_i hk
        obtain rfl := Option.some.inj hr
        have := fr.rel t
        simp only [keepF, hk, if_true] at this
        exact ⟨_, rfl, this⟩
      · cases hr
    | cell b t =>
      simp only [resOf] at hr
      split at hr
      · rename_i hk
        have hb := fr.rel b
        simp only [keepF, hk, if_true] at hb
        obtain ⟨u, h1, h2⟩ := ev_ld (P := P) hT sr hb hr
        refine ⟨u, ?_, h2⟩
        have hp : ∃ ad, a.tmps.getD b undef = .pointer (some ad) := by
          unfold ld at hr
          split at hr
          · rename_i q i o hq
            rw [hq] at hb
            generalize a.tmps.getD b undef = w at hb
            cases hb with
            | elem _ _ _ ad n c sz hs hz => exact ⟨_, rfl⟩
          · cases hr
        obtain ⟨ad, had⟩ := hp
        show ((do loadVar t (← asAddr (a.tmps.getD b undef))) : Sem Value).run P E.w = _
        rw [had] at h1 ⊢
        exact h1
      · cases hr
  have all : ∀ (l : List ResultVar) (vs : List AV), allSome (resOf T K s h) l = some vs → ∃ us, (l.mapM (fun r => match r with
      | .tmp t => pure (a.tmps.getD t undef)
      | .cell b t => do loadVar t (← asAddr (a.tmps.getD b undef)) : ResultVar → Sem Value)).run P E.w = .ok us E.w ∧ LRel E vs us := by
    intro l
    induction l with
    | nil =>
      intro vs h
      obtain rfl := Option.some.inj h
      exact ⟨[], rfl, LRel.nil E⟩
    | cons r l ih =>
      intro vs h
      simp only [allSome] at h
      split at h
      · rename_i y ys h1 h2
        obtain rfl := Option.some.inj h
        obtain ⟨u, h3, h4⟩ := one r y h1
        obtain ⟨us, h5, h6⟩ := ih ys h2
        refine ⟨u :: us, ?_, LRel.cons h4 h6⟩
        simp only [List.mapM_cons, Sem.run_bind, h3, Result.andThen_ok, h5, Sem.run_pure]
      · cases h
  obtain ⟨us, h1, h2⟩ := all _ vs he
  have hrun : (fn.results.mapM (fun r => match r with
      | .tmp t => pure (a.tmps.getD t undef)
      | .cell b t => do loadVar t (← asAddr (a.tmps.getD b undef)) : ResultVar → Sem Value)).run P E.w = .ok us.toArray E.w := by
    rw [Array.mapM_eq_mapM_toList]
    simp only [Sem.run_map, h1, Result.andThen_ok]
  refine ⟨if h : us.toArray.size = 1 then us.toArray[0] else .tuple us.toArray, ?_, ?_⟩
  · have e : results fn a.tmps = (do
        let vs ← fn.results.mapM (fun r => match r with
          | .tmp t => pure (a.tmps.getD t undef)
          | .cell b t => do loadVar t (← asAddr (a.tmps.getD b undef)) : ResultVar → Sem Value)
        pure (if h : vs.size = 1 then vs[0] else .tuple vs)) := by
      unfold results
      congr 1
    rw [e]
    simp only [Sem.run_bind]
    rw [hrun]
    rfl
  · cases us with
    | nil =>
      have : vs = [] := List.eq_nil_of_length_eq_zero (by have := h2.1; simpa using this.symm)
      subst this
      exact VRel.tup [] [] rfl (fun j h => by simp at h)
    | cons u us =>
      cases us with
      | nil =>
        cases vs with
        | nil => have := h2.1; simp at this
        | cons v vs =>
          have : vs = [] := List.eq_nil_of_length_eq_zero (by have := h2.1; simpa using this.symm)
          subst this
          have := h2.2 0 (by simp) (by simp)
          simpa [results1] using this
      | cons u2 us =>
        cases vs with
        | nil => have := h2.1; simp at this
        | cons v vs =>
          cases vs with
          | nil => have := h2.1; simp at this
          | cons v2 vs =>
            have : results1 (v :: v2 :: vs) = .tup (v :: v2 :: vs) := rfl
            rw [this]
            rw [dif_neg (by simp)]
            exact VRel.tup _ _ h2.1 h2.2

theorem body_ok (hT : TOk P T) (hC : CallsOk P C) (hm : P.follows .mixedOrders = true) {f : FuncId} {fn : Func} (hf : P.funcs[f]? = some fn) {args : List AV} {h h' : Hp} {v : AV}
    (he : body T C K fn args h = some (v, h')) : fn.body.isNone = false ∧ CallOk P f args h v h' := by
  unfold body at he
  split at he
  · rename_i hlen
    split at he
    · rename_i c hb
      refine ⟨by rw [hb]; rfl, fun B E us sr ra => ?_⟩
      have hus : us.length = args.length := ra.1
      refine calls_of_wp hf hb ?_
      have fr : FRel E fn.ntmps (keepF K (fun t => args.getD t (.lit undef))) { tmps := us.toArray ++ Array.replicate (fn.ntmps - us.toArray.size) undef, defers := [] } := by
        refine ⟨by simp; omega, rfl, fun t => ?_⟩
        simp only [keepF]
        split
        · simp only [Array.getD_eq_getD_getElem?, List.getD_eq_getElem?_getD]
          rcases Nat.lt_or_ge t us.length with ht | ht
          · rw [Array.getElem?_append_left (by simpa using ht)]
            have := ra.2 t (by omega) ht
            simpa [ht, show t < args.length by omega] using this
          · rw [List.getElem?_eq_none (by omega), Array.getElem?_append_right (by simpa using ht), Array.getElem?_replicate]
            split <;> exact .lit _
        · exact .junk _
      have fin : ∀ (ex : Ex) (s : Fr), (ex = .normal ∨ ex = .ret) → ev T C K fn.ntmps c (fun t => args.getD t (.lit undef)) h = some (ex, s, h') → (∃ vs, allSome (resOf T K s h') fn.results.toList = some vs ∧ results1 vs = v) →
          c.wp P (bodyPost P fn fun e w' => ∃ u E', e = .returned u ∧ w' = E'.w ∧ SRel h' B E' ∧ Stp h h' E E' ∧ VRel E' v u) { tmps := us.toArray ++ Array.replicate (fn.ntmps - us.toArray.size) undef, defers := [] } E.w := by
        intro ex s hex hev ⟨vs, hvs, hv⟩
        refine code_ok hT hC hm B c _ s h h' ex E _ _ hev sr fr fun E' a' sr' st' fr' => ?_
        obtain ⟨u, h1, h2⟩ := results_ok (P := P) hT sr' fr' hvs
        rw [hv] at h2
        rcases hex with rfl | rfl
        · exact ⟨fr'.defers, u, h1, u, E', rfl, rfl, sr', st', h2⟩
        · exact ⟨fr'.defers, u, h1, u, E', rfl, rfl, sr', st', h2⟩
      split at he
      · rename_i s h1 hev
        obtain ⟨vs, hvs, hv⟩ := Option.map_eq_some_iff.1 he
        injection hv with hv1 hv2
        subst hv2
        exact fin .normal s (.inl rfl) hev ⟨vs, hvs, hv1⟩
      · rename_i s h1 hev
        obtain ⟨vs, hvs, hv⟩ := Option.map_eq_some_iff.1 he
        injection hv with hv1 hv2
        subst hv2
        exact fin .ret s (.inr rfl) hev ⟨vs, hvs, hv1⟩
      · cases he
    · cases he
  · cases he
end
end Go.Proofs.Ev
end
section
/- Frozen results, calls, the program's function: sound, and what it says of itself. -/
set_option linter.unusedVariables false
set_option linter.unusedSimpArgs false
namespace Go.Proofs.Ev
open Go Go.RowKit

section
variable {h h1 : Hp} {B : Nat} {E E1 : En}

structure Frz (h h1 : Hp) (B : Nat) (E E1 : En) : Prop where
  s : SRel h B E
  s1 : SRel h1 B E1
  t : Stp { h with lo := h.next } h1 E E1

theorem Frz.old (z : Frz h h1 B E E1) {id : Nat} {r : Row} (hr : h.rows id = some r) : h1.rows id = some r ∧ E1.m id = E.m id := by
  have hl := z.s.lt id r hr
  exact ⟨(z.t.low id hl).trans hr, z.t.m id hl⟩

theorem Frz.O (z : Frz h h1 B E E1) {b : Nat} (hb : E.O b) : E1.O b := by
  obtain ⟨id, r, hr, e⟩ := (z.s.O b).1 hb
  obtain ⟨h2, h3⟩ := z.old hr
  exact (z.s1.O b).2 ⟨id, r, h2, by rw [h3]; exact e⟩

theorem frz_ok (z : Frz h h1 B E E1) : ∀ k, (∀ v v' u, frz h1 h.next k v = some v' → VRel E1 v u → VRel (E.at E1.w) v' u) ∧
    (∀ cs cs' us, frzL h1 h.next k cs = some cs' → LRel E1 cs us → LRel (E.at E1.w) cs' us ∧ cs'.length = cs.length) ∧
    (∀ es es' us, frzEs h1 h.next k es = some es' → LRel E1 es.flatten us → LRel (E.at E1.w) es'.flatten us ∧ es'.map List.length = es.map List.length) := by
  intro k
  induction k with
  | zero => exact ⟨fun v v' u e => by simp [frz] at e, fun v v' u e => by simp [frzL] at e, fun v v' u e => by simp [frzEs] at e⟩
  | succ k ih =>
    obtain ⟨ih1, ih2, ih3⟩ := ih
    have L : ∀ cs cs' us, frzL h1 h.next (k + 1) cs = some cs' → LRel E1 cs us → LRel (E.at E1.w) cs' us ∧ cs'.length = cs.length := by
      intro cs
      induction cs with
      | nil =>
        intro cs' us e r
        simp only [frzL, Option.some.injEq] at e
        subst e
        have : us = [] := List.eq_nil_of_length_eq_zero r.1
        subst this
        exact ⟨LRel.nil _, rfl⟩
      | cons c cs ihc =>
        intro cs' us e r
        simp only [frzL] at e
        split at e
        · rename_i c1 cs1 e1 e2
          obtain rfl := Option.some.inj e
          cases us with
          | nil => have := r.1; simp at this
          | cons u us =>
            have r1 : VRel E1 c u := r.2 0 (by simp) (by simp)
            have r2 : LRel E1 cs us := ⟨by have := r.1; simpa using this, fun j h1 h2 => r.2 (j + 1) (by simpa using h1) (by simpa using h2)⟩
            obtain ⟨g1, g2⟩ := ihc _ _ e2 r2
            exact ⟨LRel.cons (ih1 _ _ _ e1 r1) g1, by simp [g2]⟩
        · cases e
    have S : ∀ es es' us, frzEs h1 h.next (k + 1) es = some es' → LRel E1 es.flatten us → LRel (E.at E1.w) es'.flatten us ∧ es'.map List.length = es.map List.length := by
      intro es
      induction es with
      | nil =>
        intro es' us e r
        simp only [frzEs, Option.some.injEq] at e
        subst e
        have : us = [] := List.eq_nil_of_length_eq_zero r.1
        subst this
        exact ⟨LRel.nil _, rfl⟩
      | cons c cs ihc =>
        intro cs' us e r
        simp only [frzEs] at e
        split at e
        · rename_i c1 cs1 e1 e2
          obtain rfl := Option.some.inj e
          rw [List.flatten_cons] at r
          have rl : LRel E1 c (us.take c.length) := by
            have := r.take c.length
            rwa [List.take_left] at this
          have rr : LRel E1 cs.flatten (us.drop c.length) := by
            have := r.drop c.length
            rwa [List.drop_left] at this
          obtain ⟨g1, g2⟩ := ih2 _ _ _ e1 rl
          obtain ⟨g3, g4⟩ := ihc _ _ e2 rr
          refine ⟨?_, by simp [g2, g4]⟩
          rw [List.flatten_cons, ← List.take_append_drop c.length us]
          exact g1.append g3
        · cases e
    have uni : ∀ {es es' : List (List AV)} {sz : Nat}, es'.map List.length = es.map List.length → (∀ e ∈ es, e.length = sz) → ∀ e ∈ es', e.length = sz := by
      intro es es' sz hm hu e he
      have : e.length ∈ es'.map List.length := List.mem_map_of_mem he
      rw [hm, List.mem_map] at this
      obtain ⟨e2, h2, h3⟩ := this
      rw [← h3]
      exact hu _ h2
    refine ⟨fun v v' u e r => ?_, L, S⟩
    cases v with
    | lit w =>
      simp only [frz, Option.some.injEq] at e
      subst e
      cases r
      exact .lit _
    | nilS =>
      simp only [frz, Option.some.injEq] at e
      subst e
      cases r
      exact .nilS
    | own id =>
      simp only [frz] at e
      cases r with
      | own _ hi =>
      split at e
      · rename_i hn
        split at e
        · rename_i row hrow
          obtain ⟨es', e1, rfl⟩ := Option.map_eq_some_iff.1 e
          have R := z.s1.rows id row hrow
          obtain ⟨cur, us, c1, c2, c3, c4⟩ := R.cells
          obtain ⟨g1, g2⟩ := ih3 _ _ _ e1 c4
          have hlen : (E1.m id).len = es'.length := by rw [R.len]; have := congrArg List.length g2; simpa using this.symm
          have hu := uni g2 R.uni
          rw [hlen]
          refine .imm false es' row.sz _ _ us hu g1.1 (fun j u hj => ?_) (fun hne hO => ?_) (by rw [← hlen]; exact R.cap) (by simp) R.max g1.2
          · show E1.w.cell? _ = _
            rw [addr_zero, cell_of_row E1.w _ j cur _ _ c1]
            rw [← c3, List.getElem?_take] at hj
            split at hj
            · simpa using hj
            · cases hj
          · have hO : E.O (E1.m id).blk := hO
            obtain ⟨id', r', hr', e'⟩ := (z.s.O _).1 hO
            obtain ⟨q1, q2⟩ := z.old hr'
            have := z.s1.inj id row id' r' hrow q1 (by rw [q2]; exact e'.symm)
            have := z.s.lt id' r' hr'
            omega
        · cases e
      · rename_i hn
        obtain rfl := Option.some.inj e
        have hi' : id < E.N := by rw [z.s.N]; omega
        have hm : E1.m id = E.m id := z.t.m id (by show id < h.next; omega)
        rw [hm]
        exact VRel.own (E := E.at E1.w) id hi'
    | imm x es =>
      simp only [frz] at e
      obtain ⟨es', e1, rfl⟩ := Option.map_eq_some_iff.1 e
      cases r with
      | imm _ _ sz a c us hsz hl hc hO hcap hx hm hv =>
      obtain ⟨g1, g2⟩ := ih3 _ _ _ e1 ⟨hl, hv⟩
      have hlen : es'.length = es.length := by have := congrArg List.length g2; simpa using this
      rw [← hlen] at hcap hx ⊢
      exact .imm x es' sz a c us (uni g2 hsz) g1.1 hc (fun hne hO' => hO hne (z.O hO')) hcap hx hm g1.2
    | agg cs =>
      simp only [frz] at e
      obtain ⟨cs', e1, rfl⟩ := Option.map_eq_some_iff.1 e
      cases r with
      | agg _ us hl hv =>
      obtain ⟨g1, g2⟩ := ih2 _ _ _ e1 ⟨hl, hv⟩
      exact .agg _ _ g1.1 g1.2
    | tup cs =>
      simp only [frz] at e
      obtain ⟨cs', e1, rfl⟩ := Option.map_eq_some_iff.1 e
      cases r with
      | tup _ us hl hv =>
      obtain ⟨g1, g2⟩ := ih2 _ _ _ e1 ⟨hl, hv⟩
      exact .tup _ _ g1.1 g1.2
    | _ => simp [frz] at e
end

/-- The functions of the library stand by their words. -/
def XOk (p : Pk) : Prop := ∀ f sem, p.X f = some sem → ∀ args h v h', sem args h = some (v, h') → EnterOk p.P f ∧ CallOk p.P f args h v h'

structure PkOk (p : Pk) : Prop where
  T : TOk p.P p.T
  m : p.P.follows .mixedOrders = true
  names : ∀ (f : Nat) (fn : Func), p.P.funcs[f]? = some fn → (fn.name == "runtime.NumGoroutine") = false
  X : XOk p

theorem callF_ok {p : Pk} (ok : PkOk p) {C : CT} (hC : CallsOk p.P C) : CallsOk p.P ⟨callF p C, p.still, callF_still p C⟩ := by
  intro f args h v h' e
  have e : callF p C f args h = some (v, h') := e
  unfold callF at e
  split at e
  · rename_i sem hs
    exact ok.X f sem hs args h v h' e
  · split at e
    · cases e
    · rename_i fn hf
      split at e
      · split at e
        · rename_i v1 h1 hb
          obtain ⟨v2, e1, e2⟩ := Option.map_eq_some_iff.1 e
          simp only [Prod.mk.injEq] at e2
          obtain ⟨rfl, rfl⟩ := e2
          obtain ⟨b1, b2⟩ := body_ok ok.T hC ok.m hf hb
          refine ⟨⟨fn, hf, ok.names f fn hf, b1⟩, fun B E us s ra => ?_⟩
          have s0 : SRel { h with lo := h.next } B E := ⟨s.N, Nat.le_refl _, s.bs, s.O, s.lt, s.base, s.rows, s.inj⟩
          refine Calls.mono (b2 B E us s0 ra) fun e w' ⟨u, E1, h1', h2', s1, t1, r1⟩ => ?_
          have z : Frz h h1 B E E1 := ⟨s, s1, t1⟩
          have k : Keeps E.w E1.w (fun _ => False) := ⟨t1.os, t1.tape, t1.output, t1.size, fun b hb _ => t1.frame b hb fun id r hr hl _ => by
            have : h.next ≤ id := hl
            have := s.lt id r hr
            omega⟩
          obtain ⟨g1, g2, _⟩ := s.grow k
          exact ⟨u, E.at E1.w, h1', h2', g1, g2, (frz_ok z 40).1 _ _ _ e1 r1⟩
        · cases e
      · obtain ⟨b1, b2⟩ := body_ok ok.T hC ok.m hf e
        exact ⟨⟨fn, hf, ok.names f fn hf, b1⟩, b2⟩

theorem pcN_ok {p : Pk} (ok : PkOk p) : ∀ n, CallsOk p.P (pcN p n)
  | 0 => fun f args h v h' e => by simp [pcN] at e
  | n + 1 => callF_ok ok (pcN_ok ok n)

theorem Pc_some {p : Pk} {f : FuncId} {args : List AV} {h : Hp} {r : AV × Hp} (e : Pc p f args h = some r) : ∃ n, pcN p n f args h = some r := by
  have e : PcR p f args h = some r := e
  unfold PcR at e
  split at e
  · rename_i H
    have := H.choose_spec.choose_spec
    rw [Option.some.inj e] at this
    exact ⟨_, this⟩
  · cases e

theorem Pc_ok {p : Pk} (ok : PkOk p) : CallsOk p.P (Pc p) := fun f args h v h' e => by
  obtain ⟨n, hn⟩ := Pc_some e
  exact pcN_ok ok n f args h v h' hn

/-! What is said in the end is said from some round on. -/
structure Lim (C : Nat → CT) (L : CT) : Prop where
  lim : ∀ f a h r, L f a h = some r → ∃ N, ∀ n, N ≤ n → C n f a h = some r
  still : ∀ n, (C n).still = L.still

section
variable {C : Nat → CT} {L : CT} {T : TT} {K : Nat → Bool} {nt : Nat}

theorem evOp_lim (hl : Lim C L) {o : Oper} {ρ : Operand → AV} {h : Hp} {r : AV × Hp} (e : evOp T L o ρ h = some r) : ∃ N, ∀ n, N ≤ n → evOp T (C n) o ρ h = some r := by
  obtain ⟨dst, op, ty, pos, after, guard⟩ := o
  cases op with
  | call c =>
    obtain ⟨callee, args, ats⟩ := c
    cases callee with
    | builtin b => exact ⟨0, fun n _ => e⟩
    | value f =>
      simp only [evOp] at e ⊢
      generalize hq : ρ f = q at e
      cases q with
      | fn g a b => exact hl.lim _ _ _ _ e
      | _ => cases e
    | invoke x m => exact ⟨0, fun n _ => e⟩
  | makeFunc a b c => cases a <;> exact ⟨0, fun n _ => e⟩
  | slice a b c d m => cases m <;> exact ⟨0, fun n _ => e⟩
  | _ => exact ⟨0, fun n _ => e⟩

theorem list_lim {P : Nat → Nat → Prop} : ∀ (l : List Nat), (∀ i ∈ l, ∃ N, ∀ n, N ≤ n → P i n) → ∃ N, ∀ n, N ≤ n → ∀ i ∈ l, P i n
  | [], _ => ⟨0, fun _ _ _ h => by cases h⟩
  | i :: l, h => by
    obtain ⟨N1, h1⟩ := h i (by simp)
    obtain ⟨N2, h2⟩ := list_lim l (fun j hj => h j (List.mem_cons_of_mem _ hj))
    refine ⟨max N1 N2, fun n hn j hj => ?_⟩
    rcases List.mem_cons.1 hj with rfl | hj
    · exact h1 n (by omega)
    · exact h2 n (by omega) j hj

theorem again_lim (hl : Lim C L) {ops : Array Oper} {s : Fr} {k : Nat} {l : Loc} {h : Hp} (e : again T L ops K s k l h) : ∃ N, ∀ n, N ≤ n → again T (C n) ops K s k l h := by
  obtain ⟨N, hN⟩ := list_lim (P := fun i n => ∀ oi d, ops[i]? = some oi → oi.dst = some d → want ops oi (look l s K) = some true → evOp T (C n) oi (rho l s K) h = some (look l s K d, h)) (bads L.still ops k) (by
    intro i hi
    cases ho : ops[i]? with
    | none => exact ⟨0, fun n _ oi d h => by cases h⟩
    | some oi =>
      cases hd : oi.dst with
      | none => exact ⟨0, fun n _ oi' d h1 h2 => by injection h1 with h1; subst h1; rw [hd] at h2; cases h2⟩
      | some d =>
        by_cases hw : want ops oi (look l s K) = some true
        · obtain ⟨N, g⟩ := evOp_lim hl (e i hi oi d ho hd hw)
          exact ⟨N, fun n hn oi' d' h1 h2 _ => by injection h1 with h1; subst h1; rw [hd] at h2; injection h2 with h2; subst h2; exact g n hn⟩
        · exact ⟨0, fun n _ oi' d' h1 _ h3 => by injection h1 with h1; subst h1; exact absurd h3 hw⟩)
  exact ⟨N, fun n hn i hi => hN n hn i (by rw [← hl.still n]; exact hi)⟩

theorem chk_lim (hl : Lim C L) {ops : Array Oper} {s : Fr} : ∀ (l : List Oper) (k : Nat) (lc : Loc) (h : Hp) (r : Loc × Hp), evOps T L ops K nt s l lc h = some r → chk T L ops K s l k lc h → ∃ N, ∀ n, N ≤ n → chk T (C n) ops K s l k lc h
  | [], k, lc, h, r, e, c => ⟨0, fun n _ => trivial⟩
  | o :: rest, k, lc, h, r, e, c => by
    simp only [evOps] at e
    simp only [chk] at c ⊢
    split at e
    · split at e
      · cases e
      · rename_i hw
        simp only [hw] at c ⊢
        obtain ⟨N1, g1⟩ := again_lim hl c.1
        obtain ⟨N2, g2⟩ := chk_lim hl rest _ _ _ _ e c.2
        exact ⟨max N1 N2, fun n hn => ⟨g1 n (by omega), g2 n (by omega)⟩⟩
      · rename_i hw
        simp only [hw] at c ⊢
        split at e
        · cases e
        · rename_i v h' ho
          simp only [ho] at c
          obtain ⟨N0, g0⟩ := evOp_lim hl ho
          obtain ⟨N1, g1⟩ := again_lim hl c.1
          obtain ⟨N2, g2⟩ := chk_lim hl rest _ _ _ _ e c.2
          exact ⟨max N0 (max N1 N2), fun n hn => by rw [g0 n (by omega)]; exact ⟨g1 n (by omega), g2 n (by omega)⟩⟩
    · cases e

theorem evOps_lim (hl : Lim C L) {ops : Array Oper} {s : Fr} : ∀ (l : List Oper) (lc : Loc) (h : Hp) (r : Loc × Hp), evOps T L ops K nt s l lc h = some r → ∃ N, ∀ n, N ≤ n → evOps T (C n) ops K nt s l lc h = some r
  | [], lc, h, r, e => ⟨0, fun n _ => e⟩
  | o :: rest, lc, h, r, e => by
    simp only [evOps] at e ⊢
    split at e
    · rename_i hd
      simp only [hd, if_true]
      split at e
      · cases e
      · rename_i hw
        exact evOps_lim hl rest _ _ _ e
      · rename_i hw
        split at e
        · cases e
        · rename_i v h' ho
          obtain ⟨N1, g1⟩ := evOp_lim hl ho
          obtain ⟨N2, g2⟩ := evOps_lim hl rest _ _ _ e
          exact ⟨max N1 N2, fun n hn => by rw [g1 n (by omega)]; exact g2 n (by omega)⟩
    · cases e

theorem loopN_mono {b : Fr → Hp → R} : ∀ (n m : Nat) (s : Fr) (h : Hp) (r : Ex × Fr × Hp), loopN b n s h = some r → n ≤ m → loopN b m s h = some r
  | 0, m, s, h, r, e, _ => by simp [loopN] at e
  | n + 1, 0, s, h, r, e, hm => by omega
  | n + 1, m + 1, s, h, r, e, hm => by
    simp only [loopN] at e ⊢
    split at e
    · rename_i s1 h1 hb
      exact loopN_mono n m _ _ _ e (by omega)
    · exact e

theorem loopN_Loop {b : Fr → Hp → R} {n : Nat} {s : Fr} {h : Hp} {r : Ex × Fr × Hp} (e : loopN b n s h = some r) : Loop b s h = some r := by
  have H : ∃ n r, loopN b n s h = some r := ⟨n, r, e⟩
  unfold Loop
  rw [dif_pos H]
  have h1 := H.choose_spec.choose_spec
  have h2 := loopN_mono _ (max H.choose n) _ _ _ h1 (by omega)
  have h3 := loopN_mono _ (max H.choose n) _ _ _ e (by omega)
  rw [h2] at h3
  exact h3

/-- A loop's rule: one round, and the rest. -/
theorem Loop_eq (b : Fr → Hp → R) (s : Fr) (h : Hp) : Loop b s h = (match b s h with
    | some (.normal, s', h') => Loop b s' h'
    | r => r) := by
  have one : ∀ r, loopN b 1 s h = some r → Loop b s h = some r := fun r => loopN_Loop
  match hb : b s h with
  | some (.normal, s', h') =>
    show Loop b s h = Loop b s' h'
    cases h2 : Loop b s' h' with
    | some r =>
      obtain ⟨n, hn⟩ := Loop_some h2
      exact loopN_Loop (n := n + 1) (by simp only [loopN, hb]; exact hn)
    | none =>
      cases h3 : Loop b s h with
      | none => rfl
      | some r =>
        obtain ⟨n, hn⟩ := Loop_some h3
        cases n with
        | zero => simp [loopN] at hn
        | succ n =>
          simp only [loopN, hb] at hn
          rw [loopN_Loop hn] at h2
          cases h2
  | some (.exit id, s', h') => exact one _ (by simp only [loopN, hb])
  | some (.ret, s', h') => exact one _ (by simp only [loopN, hb])
  | none =>
    show Loop b s h = none
    cases h3 : Loop b s h with
    | none => rfl
    | some r =>
      obtain ⟨n, hn⟩ := Loop_some h3
      cases n with
      | zero => simp [loopN] at hn
      | succ n =>
        simp only [loopN, hb] at hn
        cases hn

theorem ev_lim (hl : Lim C L) : ∀ (c : Code) (s : Fr) (h : Hp) (r : Ex × Fr × Hp), ev T L K nt c s h = some r → ∃ N, ∀ n, N ≤ n → ev T (C n) K nt c s h = some r := by
  intro c
  induction c with
  | region id ops draw =>
    intro s h r e
    simp only [ev, evReg] at e ⊢
    split at e
    · cases e
    · rename_i hd
      split at e
      · cases e
      rename_i hc
      split at e
      · rename_i l h' ho
        obtain ⟨N, g⟩ := evOps_lim hl _ _ _ _ ho
        have hdr : ∃ N, ∀ n, N ≤ n → ¬ (draw = true ∧ ¬ chk T (C n) ops K s ops.toList 0 [] h) := by
          by_cases hdd : draw = true
          · obtain ⟨N, g⟩ := chk_lim hl _ _ _ _ _ ho (Classical.byContradiction fun c => hc ⟨hdd, c⟩)
            exact ⟨N, fun n hn c => c.2 (g n hn)⟩
          · exact ⟨0, fun n _ c => hdd c.1⟩
        obtain ⟨N2, g2⟩ := hdr
        exact ⟨max N N2, fun n hn => by rw [hl.still n, if_neg hd, if_neg (g2 n (by omega)), g n (by omega)]; exact e⟩
      · cases e
  | seq x y ihx ihy =>
    intro s h r e
    simp only [ev, seqR] at e ⊢
    split at e
    · rename_i s1 h1 hx
      obtain ⟨N1, g1⟩ := ihx _ _ _ hx
      obtain ⟨N2, g2⟩ := ihy _ _ _ e
      exact ⟨max N1 N2, fun n hn => by rw [g1 n (by omega)]; exact g2 n (by omega)⟩
    · rename_i hne
      obtain ⟨N1, g1⟩ := ihx _ _ _ e
      refine ⟨N1, fun n hn => ?_⟩
      rw [g1 n hn]
      obtain ⟨x1, x2, x3⟩ := r
      cases x1 with
      | normal => exact absurd e (hne _ _)
      | _ => rfl
  | cond c x y ihx ihy =>
    intro s h r e
    simp only [ev, condR] at e ⊢
    split at e
    · exact ihx _ _ _ e
    · exact ihy _ _ _ e
    · cases e
  | block id c ih =>
    intro s h r e
    simp only [ev, blockR] at e ⊢
    split at e
    · rename_i id' s1 h1 hx
      obtain ⟨N1, g1⟩ := ih _ _ _ hx
      exact ⟨N1, fun n hn => by rw [g1 n hn]; exact e⟩
    · rename_i hne
      obtain ⟨N1, g1⟩ := ih _ _ _ e
      refine ⟨N1, fun n hn => ?_⟩
      rw [g1 n hn]
      obtain ⟨x1, x2, x3⟩ := r
      cases x1 with
      | exit id => exact absurd e (hne _ _ _)
      | _ => rfl
  | loop c ih =>
    intro s h r e
    simp only [ev] at e ⊢
    obtain ⟨k, hk⟩ := Loop_some e
    have key : ∀ (k : Nat) (s : Fr) (h : Hp), loopN (fun s h => ev T L K nt c s h) k s h = some r → ∃ N, ∀ n, N ≤ n → loopN (fun s h => ev T (C n) K nt c s h) k s h = some r := by
      intro k
      induction k with
      | zero => intro s h e; simp [loopN] at e
      | succ k ihk =>
        intro s h e
        simp only [loopN] at e ⊢
        split at e
        · rename_i s1 h1 hx
          obtain ⟨N1, g1⟩ := ih _ _ _ hx
          obtain ⟨N2, g2⟩ := ihk _ _ e
          exact ⟨max N1 N2, fun n hn => by rw [g1 n (by omega)]; exact g2 n (by omega)⟩
        · rename_i hne
          obtain ⟨N1, g1⟩ := ih _ _ _ e
          refine ⟨N1, fun n hn => ?_⟩
          rw [g1 n hn]
          obtain ⟨x1, x2, x3⟩ := r
          cases x1 with
          | normal => exact absurd e (hne _ _)
          | _ => rfl
    obtain ⟨N, g⟩ := key k s h hk
    exact ⟨N, fun n hn => loopN_Loop (g n hn)⟩
  | _ =>
    intro s h r e
    exact ⟨0, fun n _ => by simpa only [ev] using e⟩

theorem body_lim (hl : Lim C L) {fn : Func} {args : List AV} {h : Hp} {r : AV × Hp} (e : body T L K fn args h = some r) : ∃ N, ∀ n, N ≤ n → body T (C n) K fn args h = some r := by
  unfold body at e ⊢
  split at e
  · rename_i hl'
    simp only [hl', if_true]
    split at e
    · rename_i c hc
      split at e
      · rename_i s h1 he
        obtain ⟨N, g⟩ := ev_lim hl _ _ _ _ he
        exact ⟨N, fun n hn => by rw [g n hn]; exact e⟩
      · rename_i s h1 he
        obtain ⟨N, g⟩ := ev_lim hl _ _ _ _ he
        exact ⟨N, fun n hn => by rw [g n hn]; exact e⟩
      · cases e
    · cases e
  · cases e

theorem callF_lim {p : Pk} (hl : Lim C L) {f : FuncId} {args : List AV} {h : Hp} {r : AV × Hp} (e : callF p L f args h = some r) : ∃ N, ∀ n, N ≤ n → callF p (C n) f args h = some r := by
  unfold callF at e ⊢
  split at e
  · exact ⟨0, fun n _ => e⟩
  · split at e
    · cases e
    · split at e
      · rename_i hz
        simp only [hz, if_true]
        split at e
        · rename_i v h1 hb
          obtain ⟨N, g⟩ := body_lim hl hb
          exact ⟨N, fun n hn => by rw [g n hn]; exact e⟩
        · cases e
      · rename_i hz
        simp only [hz, if_false]
        exact body_lim hl e
end

theorem callF_mono {p : Pk} {C C' : CT} (hst : C'.still = C.still) (hl : ∀ f a h r, C f a h = some r → C' f a h = some r) {f : FuncId} {args : List AV} {h : Hp} {r : AV × Hp} (e : callF p C f args h = some r) : callF p C' f args h = some r := by
  obtain ⟨N, g⟩ := callF_lim (C := fun _ => C') (L := C) ⟨fun f a h r e => ⟨0, fun _ _ => hl f a h r e⟩, fun _ => hst⟩ e
  exact g N (Nat.le_refl _)

theorem pcN_step {p : Pk} : ∀ (n : Nat) (f : FuncId) (a : List AV) (h : Hp) (r : AV × Hp), pcN p n f a h = some r → pcN p (n + 1) f a h = some r
  | 0, f, a, h, r, e => by simp [pcN] at e
  | n + 1, f, a, h, r, e => callF_mono (by rw [pcN_stills, pcN_stills]) (pcN_step n) e

theorem pcN_mono {p : Pk} {n m : Nat} (hm : n ≤ m) {f : FuncId} {a : List AV} {h : Hp} {r : AV × Hp} (e : pcN p n f a h = some r) : pcN p m f a h = some r := by
  induction hm with
  | refl => exact e
  | step _ ih => exact pcN_step _ _ _ _ _ ih

theorem pcN_Pc {p : Pk} {n : Nat} {f : FuncId} {a : List AV} {h : Hp} {r : AV × Hp} (e : pcN p n f a h = some r) : Pc p f a h = some r := by
  have H : ∃ n r, pcN p n f a h = some r := ⟨n, r, e⟩
  show PcR p f a h = some r
  unfold PcR
  rw [dif_pos H]
  have h1 := H.choose_spec.choose_spec
  have h2 := pcN_mono (m := max H.choose n) (by omega) h1
  have h3 := pcN_mono (m := max H.choose n) (by omega) e
  rw [h2] at h3
  exact h3

theorem Pc_lim (p : Pk) : Lim (pcN p) (Pc p) := ⟨fun f a h r e => by
  obtain ⟨n, hn⟩ := Pc_some e
  exact ⟨n, fun m hm => pcN_mono hm hn⟩, fun n => pcN_stills p n⟩

theorem Pc_eq (p : Pk) (f : FuncId) (a : List AV) (h : Hp) : Pc p f a h = callF p (Pc p) f a h := by
  cases e : callF p (Pc p) f a h with
  | some r =>
    obtain ⟨N, g⟩ := callF_lim (Pc_lim p) e
    exact pcN_Pc (n := N + 1) (g N (Nat.le_refl _))
  | none =>
    cases e2 : Pc p f a h with
    | none => rfl
    | some r =>
      obtain ⟨n, hn⟩ := Pc_some e2
      have h1 := pcN_step n _ _ _ _ hn
      have h2 : callF p (Pc p) f a h = some r := callF_mono (C := pcN p n) (pcN_stills p n).symm (fun f a h r e => pcN_Pc e) h1
      rw [h2] at e
      cases e

/-- From nothing of its own: the run's answer. -/
abbrev hp0 : Hp := { rows := fun _ => none, next := 0, lo := 0 }

theorem Pc_calls {p : Pk} (ok : PkOk p) {f : FuncId} {args : List AV} {v : Value} {h' : Hp} (e : Pc p f args hp0 = some (.lit v, h')) (w : World) {us : List Value} (hr : LRel ⟨w, fun _ => False, fun _ => default, 0⟩ args us) :
    Calls p.P f us.toArray w fun e w' => e = .returned v ∧ Below w.heap.size w w' := by
  obtain ⟨_, g⟩ := Pc_ok ok f args hp0 _ h' e
  refine Calls.mono (g w.heap.size ⟨w, fun _ => False, fun _ => default, 0⟩ us ?_ hr) fun e w' ⟨u, E', h1, h2, h3, h4, h5⟩ => ?_
  · exact ⟨rfl, Nat.le_refl _, Nat.le_refl _, fun b => ⟨False.elim, fun ⟨id, r, hr, _⟩ => by simp at hr⟩, fun id r hr => by simp at hr, fun id r hr => by simp at hr, fun id r hr => by simp at hr, fun id r _ _ hr => by simp at hr⟩
  · cases h5
    subst h2
    exact ⟨h1, h4.os, h4.tape, h4.output, h4.size, fun k hk => h4.frame k hk fun id r hr => by simp at hr⟩
end Go.Proofs.Ev
end
section
/- Code made compact: lists of operations over one environment. -/
set_option linter.unusedVariables false
set_option linter.unusedSimpArgs false
namespace Go.Proofs.Ev
open Go Go.RowKit

abbrev Env := List (Nat × AV)

def get : Env → Nat → AV
  | [], _ => .lit undef
  | (u, v) :: l, t => if t = u then v else get l t

def setL : Env → Nat → AV → Env
  | [], t, v => [(t, v)]
  | (u, w) :: l, t, v => if u = t then (t, v) :: l else (u, w) :: setL l t v

theorem get_setL : ∀ (l : Env) (t : Nat) (v : AV) (u : Nat), get (setL l t v) u = if u = t then v else get l u
  | [], t, v, u => by simp only [setL, get]
  | (w, x) :: l, t, v, u => by
    simp only [setL]
    split
    · rename_i e
      subst e
      simp only [get]
      split <;> rfl
    · rename_i e
      simp only [get, get_setL l t v u]
      split
      · rename_i e1
        subst e1
        rw [if_neg e]
      · rfl

structure Cop where
  g : Option (Nat × Bool)
  d : Option Nat
  op : Op

inductive CC
  | skip
  | reg (ops : List Cop) (kept : List Nat)
  | regD (ops : List (Cop × List Cop)) (kept : List Nat)
  | seq (a b : CC)
  | cond (c : Operand) (a b : CC)
  | block (id : Nat) (c : CC)
  | loop (c : CC)
  | exit (id : Nat)
  | ret

def okRead (K : Nat → Bool) (seen : List Nat) : Operand → Bool
  | .tmp t => seen.contains t || K t
  | _ => true

def gOf (ops : Array Oper) (o : Oper) : Option (Option (Nat × Bool)) :=
  match o.guard with
  | none => some none
  | some (j, b) => match (ops[j]?).bind (·.dst) with
    | some d => some (some (d, b))
    | none => none

def okG (K : Nat → Bool) (seen : List Nat) : Option (Nat × Bool) → Bool
  | some (d, _) => seen.contains d || K d
  | none => true

def cops (K : Nat → Bool) (nt : Nat) (ops : Array Oper) : List Nat → List Oper → Option (List Cop)
  | _, [] => some []
  | seen, o :: l => match gOf ops o with
    | none => none
    | some g => if (dstOk nt o.dst && o.op.operands.toList.all (okRead K seen) && okG K seen g) = true then
        (cops K nt ops (o.dst.toList ++ seen) l).map (⟨g, o.dst, o.op⟩ :: ·) else none

def copOf (ops : Array Oper) (i : Nat) : Option Cop :=
  match ops[i]? with
  | some o => (gOf ops o).map fun g => ⟨g, o.dst, o.op⟩
  | none => none

def okCop (K : Nat → Bool) (seen : List Nat) (c : Cop) : Bool :=
  c.op.operands.toList.all (okRead K seen) && okG K seen c.g && (match c.d with
    | some d => seen.contains d || K d
    | none => true)

def copsD (S : FuncId → Bool) (K : Nat → Bool) (nt : Nat) (ops : Array Oper) : List Nat → Nat → List Oper → Option (List (Cop × List Cop))
  | _, _, [] => some []
  | seen, n, o :: l => match gOf ops o with
    | none => none
    | some g => if (dstOk nt o.dst && o.op.operands.toList.all (okRead K seen) && okG K seen g && ((bads S ops n).all fun i => (copOf ops i).isSome) && ((bads S ops n).filterMap (copOf ops)).all (okCop K seen)) = true then
        (copsD S K nt ops (o.dst.toList ++ seen) (n + 1) l).map ((⟨g, o.dst, o.op⟩, (bads S ops n).filterMap (copOf ops)) :: ·) else none

def ded : List Nat → List Nat
  | [] => []
  | x :: l => if l.contains x = true then ded l else x :: ded l

def keptOf (K : Nat → Bool) (l : List Cop) : List Nat := ded ((l.filterMap (·.d)).filter K)

def ccode (S : FuncId → Bool) (K : Nat → Bool) (nt : Nat) : Code → Option CC
  | .skip => some .skip
  | .region _ ops draw => if draw = true then
      if okDraw S ops = true then (copsD S K nt ops [] 0 ops.toList).map fun l =>
        if (l.all fun c => c.2.isEmpty) = true then .reg (l.map (·.1)) (keptOf K (l.map (·.1))) else .regD l (keptOf K (l.map (·.1)))
      else none
    else (cops K nt ops [] ops.toList).map fun l => .reg l (keptOf K l)
  | .seq a b => match ccode S K nt a, ccode S K nt b with
    | some a, some b => some (.seq a b)
    | _, _ => none
  | .cond c a b => if okRead K [] c = true then match ccode S K nt a, ccode S K nt b with
    | some a, some b => some (.cond c a b)
    | _, _ => none else none
  | .block id c => (ccode S K nt c).map (.block id)
  | .loop c => (ccode S K nt c).map .loop
  | .exit id => some (.exit id)
  | .ret => some .ret
  | _ => none

def wantC (e : Env) : Option (Nat × Bool) → Option Bool
  | none => some true
  | some (d, b) => match get e d with
    | .lit (.bool c) => some (c == b)
    | .lit (.tuple _) => some false
    | _ => none

abbrev RE := Option (Ex × Env × Hp)

def evP (T : TT) (C : CT) (op : Op) (ρ : Operand → AV) (h : Hp) : Option (AV × Hp) := evOp T C ⟨none, op, 0, "", #[], none⟩ ρ h

def evS (T : TT) (C : CT) : List Cop → Env → Hp → Option (Env × Hp)
  | [], e, h => some (e, h)
  | c :: r, e, h => match wantC e c.g with
    | none => none
    | some false => evS T C r (bindL c.d (.lit undef) e) h
    | some true => match evP T C c.op (rhoOf (get e)) h with
      | none => none
      | some (v, h') => evS T C r (bindL c.d v e) h'

def againC (T : TT) (C : CT) (e : Env) (h : Hp) : List Cop → Prop
  | [] => True
  | c :: l => (wantC e c.g = some true → match c.d with
      | some d => evP T C c.op (rhoOf (get e)) h = some (get e d, h)
      | none => True) ∧ againC T C e h l

open Classical in
noncomputable def evSD (T : TT) (C : CT) : List (Cop × List Cop) → Env → Hp → Option (Env × Hp)
  | [], e, h => some (e, h)
  | (c, ck) :: r, e, h => match wantC e c.g with
    | none => none
    | some false => if againC T C e h ck then evSD T C r (bindL c.d (.lit undef) e) h else none
    | some true => match evP T C c.op (rhoOf (get e)) h with
      | none => none
      | some (v, h') => if againC T C e h' ck then evSD T C r (bindL c.d v e) h' else none

def commits (e : Env) : List Nat → Env → Env
  | [], st => st
  | t :: l, st => commits e l (setL st t (get e t))

def loopM (b : Env → Hp → RE) : Nat → Env → Hp → RE
  | 0, _, _ => none
  | n + 1, s, h => match b s h with
    | some (.normal, s', h') => loopM b n s' h'
    | r => r

open Classical in
noncomputable def LoopM (b : Env → Hp → RE) (s : Env) (h : Hp) : RE :=
  if H : ∃ n r, loopM b n s h = some r then some H.choose_spec.choose else none

def evReg' (x : Option (Env × Hp)) (kept : List Nat) (st : Env) : RE :=
  match x with
  | some (e, h') => some (.normal, commits e kept st, h')
  | none => none
def seqE (x : RE) (k : Env → Hp → RE) : RE :=
  match x with
  | some (.normal, s, h) => k s h
  | r => r
def blockE (id : Nat) (x : RE) : RE :=
  match x with
  | some (.exit id', s, h) => if id' = id then some (.normal, s, h) else some (.exit id', s, h)
  | r => r
def condE (c : AV) (x y : RE) : RE :=
  match c with
  | .lit (.bool true) => x
  | .lit (.bool false) => y
  | _ => none

noncomputable def evC (T : TT) (C : CT) : CC → Env → Hp → RE
  | .skip, s, h => some (.normal, s, h)
  | .reg ops kept, st, h => evReg' (evS T C ops st h) kept st
  | .regD ops kept, st, h => evReg' (evSD T C ops st h) kept st
  | .seq a b, st, h => seqE (evC T C a st h) (fun st h => evC T C b st h)
  | .cond c a b, st, h => condE (rhoOf (get st) c) (evC T C a st h) (evC T C b st h)
  | .block id c, st, h => blockE id (evC T C c st h)
  | .loop c, st, h => LoopM (fun st h => evC T C c st h) st h
  | .exit id, st, h => some (.exit id, st, h)
  | .ret, st, h => some (.ret, st, h)

theorem LoopM_some {b : Env → Hp → RE} {s : Env} {h : Hp} {r : Ex × Env × Hp} (e : LoopM b s h = some r) : ∃ n, loopM b n s h = some r := by
  unfold LoopM at e
  split at e
  · rename_i H
    have := H.choose_spec.choose_spec
    rw [Option.some.inj e] at this
    exact ⟨_, this⟩
  · cases e

theorem loopM_mono {b : Env → Hp → RE} : ∀ (n m : Nat) (s : Env) (h : Hp) (r : Ex × Env × Hp), loopM b n s h = some r → n ≤ m → loopM b m s h = some r
  | 0, m, s, h, r, e, _ => by simp [loopM] at e
  | n + 1, 0, s, h, r, e, hm => by omega
  | n + 1, m + 1, s, h, r, e, hm => by
    simp only [loopM] at e ⊢
    split at e
    · rename_i s1 h1 hb
      exact loopM_mono n m _ _ _ e (by omega)
    · exact e

theorem loopM_LoopM {b : Env → Hp → RE} {n : Nat} {s : Env} {h : Hp} {r : Ex × Env × Hp} (e : loopM b n s h = some r) : LoopM b s h = some r := by
  have H : ∃ n r, loopM b n s h = some r := ⟨n, r, e⟩
  unfold LoopM
  rw [dif_pos H]
  have h1 := H.choose_spec.choose_spec
  have h2 := loopM_mono _ (max H.choose n) _ _ _ h1 (by omega)
  have h3 := loopM_mono _ (max H.choose n) _ _ _ e (by omega)
  rw [h2] at h3
  exact h3

section
variable {T : TT} {C : CT} {K : Nat → Bool} {nt : Nat}

def RR (K : Nat → Bool) (s : Fr) (st : Env) : Prop := ∀ t, K t = true → s t = get st t

theorem get_bind (d : Option Nat) (v : AV) (e : Env) (t : Nat) : get (bindL d v e) t = if d = some t then v else get e t := by
  cases d with
  | none => rfl
  | some u =>
    simp only [bindL, get, Option.some.injEq]
    by_cases h : t = u
    · subst h; simp
    · rw [if_neg h, if_neg (fun e => h e.symm)]

theorem evP_eq (o : Oper) (ρ : Operand → AV) (h : Hp) : evOp T C o ρ h = evP T C o.op ρ h := rfl

theorem cop_reads {ops : Array Oper} {seen : List Nat} {lc : Loc} {e : Env} {s : Fr} (hr : ∀ t, t ∈ seen ∨ K t = true → look lc s K t = get e t) {o : Oper} {g : Option (Nat × Bool)} (hg : gOf ops o = some g)
    (hops : o.op.operands.toList.all (okRead K seen) = true) (hgg : okG K seen g = true) :
    (∀ y ∈ o.op.operands, rho lc s K y = rhoOf (get e) y) ∧ want ops o (look lc s K) = wantC e g := by
  rw [List.all_eq_true] at hops
  refine ⟨fun y hy => ?_, ?_⟩
  · have := hops y (by simpa using hy)
    refine rho_congr fun t ht => ?_
    subst ht
    simp only [okRead, Bool.or_eq_true, List.contains_iff_mem] at this
    exact hr t this
  · unfold want
    unfold gOf at hg
    generalize o.guard = og at hg ⊢
    cases og with
    | none =>
      obtain rfl := Option.some.inj hg
      rfl
    | some jb =>
      obtain ⟨j, b⟩ := jb
      simp only at hg ⊢
      split at hg
      · rename_i d hdd
        obtain rfl := Option.some.inj hg
        have : look lc s K d = get e d := hr d (by simpa [okG, List.contains_iff_mem] using hgg)
        simp only [hdd, wantC, this]
        generalize get e d = q
        split <;> simp_all
      · cases hg

theorem cop_next {seen : List Nat} {lc : Loc} {e : Env} {s : Fr} (hr : ∀ t, t ∈ seen ∨ K t = true → look lc s K t = get e t) (dst : Option Nat) (v : AV) :
    ∀ t, t ∈ dst.toList ++ seen ∨ K t = true → look (bindL dst v lc) s K t = get (bindL dst v e) t := by
  intro t ht
  rw [look_bind, get_bind]
  split
  · rfl
  · rename_i hne
    refine hr t ?_
    rcases ht with ht | ht
    · rcases List.mem_append.1 ht with h1 | h1
      · exact absurd (by simpa using h1) hne
      · exact .inl h1
    · exact .inr ht

theorem cop_out {e : Env} {g : Option (Nat × Bool)} {dst : Option Nat} {op : Op} {cl' : List Cop} (v : AV) (e1 : Env) (t : Nat) (ht : t ∉ List.filterMap (·.d) (⟨g, dst, op⟩ :: cl')) (hh : t ∉ cl'.filterMap (·.d) → get e1 t = get (bindL dst v e) t) : get e1 t = get e t := by
  have h1 : t ∉ cl'.filterMap (·.d) ∧ dst ≠ some t := by
    refine ⟨fun hm => ht ?_, fun hm => ht ?_⟩
    · rw [List.mem_filterMap] at hm ⊢
      obtain ⟨c, hc1, hc2⟩ := hm
      exact ⟨c, List.mem_cons_of_mem _ hc1, hc2⟩
    · rw [List.mem_filterMap]
      exact ⟨_, List.mem_cons_self .., hm⟩
  rw [hh h1.1, get_bind, if_neg h1.2]

theorem cops_ok {ops : Array Oper} {s : Fr} : ∀ (l : List Oper) (seen : List Nat) (lc : Loc) (e e1 : Env) (h h1 : Hp) (cl : List Cop), cops K nt ops seen l = some cl →
    (∀ t, t ∈ seen ∨ K t = true → look lc s K t = get e t) → evS T C cl e h = some (e1, h1) →
    ∃ lc1, evOps T C ops K nt s l lc h = some (lc1, h1) ∧ (∀ t, K t = true → look lc1 s K t = get e1 t) ∧ (∀ t, t ∉ cl.filterMap (·.d) → get e1 t = get e t)
  | [], seen, lc, e, e1, h, h1, cl, hc, hr, he => by
    obtain rfl := Option.some.inj hc
    simp only [evS, Option.some.injEq, Prod.mk.injEq] at he
    obtain ⟨rfl, rfl⟩ := he
    exact ⟨lc, rfl, fun t ht => hr t (.inr ht), fun t _ => rfl⟩
  | o :: l, seen, lc, e, e1, h, h1, cl, hc, hr, he => by
    simp only [cops] at hc
    split at hc
    · cases hc
    · rename_i g hg
      split at hc
      · rename_i hok
        obtain ⟨cl', hc', rfl⟩ := Option.map_eq_some_iff.1 hc
        simp only [Bool.and_eq_true] at hok
        obtain ⟨⟨hd, hops⟩, hgg⟩ := hok
        obtain ⟨hread, hw⟩ := cop_reads hr hg hops hgg
        have hnext := cop_next hr o.dst
        simp only [evS] at he
        simp only [evOps, hd, if_true, hw]
        split at he
        · cases he
        · rename_i hq
          obtain ⟨lc1, g1, g2, g3⟩ := cops_ok l _ _ _ _ _ _ _ hc' (hnext (.lit undef)) he
          exact ⟨lc1, by simp only [hq]; exact g1, g2, fun t ht => cop_out _ _ t ht (g3 t)⟩
        · rename_i hq
          split at he
          · cases he
          · rename_i v h' hv
            obtain ⟨lc1, g1, g2, g3⟩ := cops_ok l _ _ _ _ _ _ _ hc' (hnext v) he
            refine ⟨lc1, ?_, g2, fun t ht => cop_out _ _ t ht (g3 t)⟩
            have : evOp T C o (rho lc s K) h = some (v, h') := by rw [evOp_congr hread, evP_eq]; exact hv
            simp only [hq, this]
            exact g1
      · cases hc

theorem againC_mem {e : Env} {h : Hp} : ∀ {l : List Cop}, againC T C e h l → ∀ c ∈ l, wantC e c.g = some true → ∀ d, c.d = some d → evP T C c.op (rhoOf (get e)) h = some (get e d, h)
  | [], _, c, hc => by cases hc
  | c0 :: l, ha, c, hc => by
    intro hw d hd
    rcases List.mem_cons.1 hc with rfl | hc
    · have := ha.1 hw
      rw [hd] at this
      exact this
    · exact againC_mem ha.2 c hc hw d hd

theorem again_of {ops : Array Oper} {s : Fr} {seen : List Nat} {lc : Loc} {e : Env} {h : Hp} {n : Nat} (hr : ∀ t, t ∈ seen ∨ K t = true → look lc s K t = get e t)
    (h1 : ((bads C.still ops n).all fun i => (copOf ops i).isSome) = true) (h2 : ((bads C.still ops n).filterMap (copOf ops)).all (okCop K seen) = true)
    (ha : againC T C e h ((bads C.still ops n).filterMap (copOf ops))) : again T C ops K s n lc h := by
  intro i hi oi d ho hd hw
  rw [List.all_eq_true] at h1 h2
  have hs := h1 i hi
  obtain ⟨c, hc⟩ := Option.isSome_iff_exists.1 hs
  have hm : c ∈ (bads C.still ops n).filterMap (copOf ops) := List.mem_filterMap.2 ⟨i, hi, hc⟩
  have hk := h2 c hm
  unfold copOf at hc
  rw [ho] at hc
  obtain ⟨g, hg, rfl⟩ := Option.map_eq_some_iff.1 hc
  simp only [okCop, Bool.and_eq_true, hd] at hk
  obtain ⟨⟨k1, k2⟩, k3⟩ := hk
  obtain ⟨r1, r2⟩ := cop_reads hr hg k1 k2
  rw [r2] at hw
  have := againC_mem ha _ hm hw d hd
  rw [hr d (by simpa [List.contains_iff_mem] using k3), evOp_congr r1, evP_eq]
  exact this

theorem copsD_ok {ops : Array Oper} {s : Fr} : ∀ (l : List Oper) (seen : List Nat) (n : Nat) (lc : Loc) (e e1 : Env) (h h1 : Hp) (cl : List (Cop × List Cop)), copsD C.still K nt ops seen n l = some cl →
    (∀ t, t ∈ seen ∨ K t = true → look lc s K t = get e t) → evSD T C cl e h = some (e1, h1) →
    ∃ lc1, evOps T C ops K nt s l lc h = some (lc1, h1) ∧ chk T C ops K s l n lc h ∧ (∀ t, K t = true → look lc1 s K t = get e1 t) ∧ (∀ t, t ∉ (cl.map (·.1)).filterMap (·.d) → get e1 t = get e t)
  | [], seen, n, lc, e, e1, h, h1, cl, hc, hr, he => by
    obtain rfl := Option.some.inj hc
    simp only [evSD, Option.some.injEq, Prod.mk.injEq] at he
    obtain ⟨rfl, rfl⟩ := he
    exact ⟨lc, rfl, trivial, fun t ht => hr t (.inr ht), fun t _ => rfl⟩
  | o :: l, seen, n, lc, e, e1, h, h1, cl, hc, hr, he => by
    simp only [copsD] at hc
    split at hc
    · cases hc
    · rename_i g hg
      split at hc
      · rename_i hok
        obtain ⟨cl', hc', rfl⟩ := Option.map_eq_some_iff.1 hc
        simp only [Bool.and_eq_true] at hok
        obtain ⟨⟨⟨⟨hd, hops⟩, hgg⟩, hb1⟩, hb2⟩ := hok
        obtain ⟨hread, hw⟩ := cop_reads hr hg hops hgg
        have hnext := cop_next hr o.dst
        simp only [evSD] at he
        simp only [evOps, chk, hd, if_true, hw]
        split at he
        · cases he
        · rename_i hq
          split at he
          · rename_i ha
            obtain ⟨lc1, g1, gc, g2, g3⟩ := copsD_ok l _ _ _ _ _ _ _ _ hc' (hnext (.lit undef)) he
            exact ⟨lc1, by simp only [hq]; exact g1, by simp only [hq]; exact ⟨again_of hr hb1 hb2 ha, gc⟩, g2, fun t ht => cop_out _ _ t ht (g3 t)⟩
          · cases he
        · rename_i hq
          split at he
          · cases he
          · rename_i v h' hv
            split at he
            · rename_i ha
              obtain ⟨lc1, g1, gc, g2, g3⟩ := copsD_ok l _ _ _ _ _ _ _ _ hc' (hnext v) he
              have : evOp T C o (rho lc s K) h = some (v, h') := by rw [evOp_congr hread, evP_eq]; exact hv
              exact ⟨lc1, by simp only [hq, this]; exact g1, by simp only [hq, this]; exact ⟨again_of hr hb1 hb2 ha, gc⟩, g2, fun t ht => cop_out _ _ t ht (g3 t)⟩
            · cases he
      · cases hc

theorem evS_D : ∀ (l : List (Cop × List Cop)) (e e1 : Env) (h h1 : Hp), (l.all fun c => c.2.isEmpty) = true → evS T C (l.map (·.1)) e h = some (e1, h1) → evSD T C l e h = some (e1, h1)
  | [], e, e1, h, h1, _, he => he
  | (c, ck) :: l, e, e1, h, h1, ha, he => by
    simp only [List.all_cons, Bool.and_eq_true, List.isEmpty_iff] at ha
    obtain ⟨rfl, ha⟩ := ha
    simp only [List.map_cons, evS] at he
    have ht : ∀ (e : Env) (h : Hp), againC T C e h [] := fun _ _ => trivial
    rw [evSD]
    split at he
    · cases he
    · rename_i hq
      rw [if_pos (ht _ _)]
      exact evS_D l _ _ _ _ ha he
    · rename_i hq
      split at he
      · cases he
      · rename_i v h' hv
        rw [if_pos (ht _ _)]
        exact evS_D l _ _ _ _ ha he

theorem commit_look : ∀ (l : Loc) (s : Fr) (t : Nat), K t = true → commit K l s t = look l s K t
  | [], s, t, ht => by simp only [commit, look, ht, if_true]
  | (u, v) :: l, s, t, ht => by
    simp only [commit, look]
    by_cases h : t = u
    · subst h
      simp only [ht, if_true, upd]
    · rw [if_neg h]
      split
      · simp only [upd, if_neg h]
        exact commit_look l s t ht
      · exact commit_look l s t ht

theorem ded_mem : ∀ (l : List Nat) (t : Nat), t ∈ ded l ↔ t ∈ l
  | [], t => by simp [ded]
  | x :: l, t => by
    simp only [ded]
    split
    · rename_i h
      rw [ded_mem l t]
      simp only [List.contains_iff_mem] at h
      constructor
      · exact fun h => List.mem_cons_of_mem _ h
      · intro h1
        rcases List.mem_cons.1 h1 with h1 | h1
        · rw [h1]; exact h
        · exact h1
    · simp only [List.mem_cons, ded_mem l t]

theorem get_commits (e : Env) : ∀ (l : List Nat) (st : Env) (t : Nat), get (commits e l st) t = if t ∈ l then get e t else get st t
  | [], st, t => by simp [commits]
  | u :: l, st, t => by
    simp only [commits, get_commits e l, get_setL, List.mem_cons]
    by_cases h1 : t ∈ l
    · simp [h1]
    · by_cases h2 : t = u
      · subst h2; simp [h1]
      · simp [h1, h2]

theorem cc_ok : ∀ (c : Code) (cc : CC) (s : Fr) (st st' : Env) (h h' : Hp) (x : Ex), ccode C.still K nt c = some cc → RR K s st → evC T C cc st h = some (x, st', h') →
    ∃ s', ev T C K nt c s h = some (x, s', h') ∧ RR K s' st' := by
  intro c
  induction c with
  | skip =>
    intro cc s st st' h h' x hc hr he
    obtain rfl := Option.some.inj hc
    simp only [evC, Option.some.injEq, Prod.mk.injEq] at he
    obtain ⟨rfl, rfl, rfl⟩ := he
    exact ⟨s, rfl, hr⟩
  | region id ops draw =>
    intro cc s st st' h h' x hc hr he
    have hr0 : ∀ t, t ∈ ([] : List Nat) ∨ K t = true → look [] s K t = get st t := fun t ht => by
      rcases ht with ht | ht
      · cases ht
      · simp only [look, ht, if_true]; exact hr t ht
    have fin : ∀ (cl : List Cop) (lc : Loc) (e : Env), (∀ t, K t = true → look lc s K t = get e t) → (∀ t, t ∉ cl.filterMap (·.d) → get e t = get st t) → RR K (commit K lc s) (commits e (keptOf K cl) st) := by
      intro cl lc e g2 g3 t ht
      rw [commit_look _ _ _ ht, g2 t ht, get_commits]
      split
      · rfl
      · rename_i hn
        refine g3 t fun hm => hn ?_
        unfold keptOf
        rw [ded_mem, List.mem_filter]
        exact ⟨hm, ht⟩
    simp only [ccode] at hc
    cases draw with
    | false =>
      rw [if_neg (by simp)] at hc
      obtain ⟨cl, hcl, rfl⟩ := Option.map_eq_some_iff.1 hc
      simp only [evC, evReg'] at he
      split at he
      · rename_i e h1 hs
        simp only [Option.some.injEq, Prod.mk.injEq] at he
        obtain ⟨rfl, rfl, rfl⟩ := he
        obtain ⟨lc, g1, g2, g3⟩ := cops_ok ops.toList [] [] st e h h1 cl hcl hr0 hs
        refine ⟨commit K lc s, ?_, fin cl lc e g2 g3⟩
        simp [ev, evReg, g1]
      · cases he
    | true =>
      rw [if_pos rfl] at hc
      split at hc
      · rename_i hok
        obtain ⟨cl, hcl, rfl⟩ := Option.map_eq_some_iff.1 hc
        have hD : ∀ (e : Env) (h1 : Hp), evSD T C cl st h = some (e, h1) → ∃ s', ev T C K nt (.region id ops true) s h = some (.normal, s', h1) ∧ RR K s' (commits e (keptOf K (cl.map (·.1))) st) := by
          intro e h1 hs
          obtain ⟨lc, g1, gc, g2, g3⟩ := copsD_ok ops.toList [] 0 [] st e h h1 cl hcl hr0 hs
          refine ⟨commit K lc s, ?_, fin (cl.map (·.1)) lc e g2 g3⟩
          simp [ev, evReg, g1, hok, gc]
        split at he
        · rename_i hall
          simp only [evC, evReg'] at he
          split at he
          · rename_i e h1 hs
            simp only [Option.some.injEq, Prod.mk.injEq] at he
            obtain ⟨rfl, rfl, rfl⟩ := he
            exact hD e h1 (evS_D _ _ _ _ _ hall hs)
          · cases he
        · simp only [evC, evReg'] at he
          split at he
          · rename_i e h1 hs
            simp only [Option.some.injEq, Prod.mk.injEq] at he
            obtain ⟨rfl, rfl, rfl⟩ := he
            exact hD e h1 hs
          · cases he
      · cases hc
  | seq a b iha ihb =>
    intro cc s st st' h h' x hc hr he
    simp only [ccode] at hc
    split at hc
    · rename_i ca cb ha hb
      obtain rfl := Option.some.inj hc
      simp only [evC, seqE] at he
      split at he
      · rename_i s1 h1 hx
        obtain ⟨s2, g1, g2⟩ := iha _ _ _ _ _ _ _ ha hr hx
        obtain ⟨s3, g3, g4⟩ := ihb _ _ _ _ _ _ _ hb g2 he
        exact ⟨s3, by simp only [ev, seqR, g1, g3], g4⟩
      · rename_i hne
        obtain ⟨s2, g1, g2⟩ := iha _ _ _ _ _ _ _ ha hr he
        refine ⟨s2, ?_, g2⟩
        simp only [ev, seqR, g1]
        cases x with
        | normal => exact absurd he (hne _ _)
        | _ => rfl
    · cases hc
  | cond c a b iha ihb =>
    intro cc s st st' h h' x hc hr he
    simp only [ccode] at hc
    split at hc
    · rename_i hk
      split at hc
      · rename_i ca cb ha hb
        obtain rfl := Option.some.inj hc
        have hv : rho [] s K c = rhoOf (get st) c := by
          refine rho_congr fun t hc => ?_
          subst hc
          have ht : K t = true := by simpa [okRead] using hk
          simp only [look, ht, if_true]
          exact hr t ht
        simp only [evC, condE] at he
        simp only [ev, condR, hv]
        split at he
        · rename_i hq
          simp only [hq]
          exact iha _ _ _ _ _ _ _ ha hr he
        · rename_i hq
          simp only [hq]
          exact ihb _ _ _ _ _ _ _ hb hr he
        · cases he
      · cases hc
    · cases hc
  | block id c ih =>
    intro cc s st st' h h' x hc hr he
    simp only [ccode] at hc
    obtain ⟨ca, ha, rfl⟩ := Option.map_eq_some_iff.1 hc
    simp only [evC, blockE] at he
    split at he
    · rename_i id' s1 h1 hx
      obtain ⟨s2, g1, g2⟩ := ih _ _ _ _ _ _ _ ha hr hx
      split at he
      · rename_i hid
        simp only [Option.some.injEq, Prod.mk.injEq] at he
        obtain ⟨rfl, rfl, rfl⟩ := he
        exact ⟨s2, by simp only [ev, blockR, g1, hid, if_true], g2⟩
      · rename_i hid
        simp only [Option.some.injEq, Prod.mk.injEq] at he
        obtain ⟨rfl, rfl, rfl⟩ := he
        exact ⟨s2, by simp only [ev, blockR, g1, hid, if_false], g2⟩
    · rename_i hne
      obtain ⟨s2, g1, g2⟩ := ih _ _ _ _ _ _ _ ha hr he
      refine ⟨s2, ?_, g2⟩
      simp only [ev, blockR, g1]
      cases x with
      | exit id => exact absurd he (hne _ _ _)
      | _ => rfl
  | loop c ih =>
    intro cc s st st' h h' x hc hr he
    simp only [ccode] at hc
    obtain ⟨ca, ha, rfl⟩ := Option.map_eq_some_iff.1 hc
    simp only [evC] at he
    obtain ⟨n, hn⟩ := LoopM_some he
    have key : ∀ (n : Nat) (s : Fr) (st : Env) (h : Hp), RR K s st → loopM (fun st h => evC T C ca st h) n st h = some (x, st', h') → ∃ s', loopN (fun s h => ev T C K nt c s h) n s h = some (x, s', h') ∧ RR K s' st' := by
      intro n
      induction n with
      | zero => intro s st h hr e; simp [loopM] at e
      | succ n ihn =>
        intro s st h hr e
        simp only [loopM] at e
        split at e
        · rename_i s1 h1 hx
          obtain ⟨s2, g1, g2⟩ := ih _ _ _ _ _ _ _ ha hr hx
          obtain ⟨s3, g3, g4⟩ := ihn _ _ _ g2 e
          exact ⟨s3, by simp only [loopN, g1, g3], g4⟩
        · rename_i hne
          obtain ⟨s2, g1, g2⟩ := ih _ _ _ _ _ _ _ ha hr e
          refine ⟨s2, ?_, g2⟩
          simp only [loopN, g1]
          cases x with
          | normal => exact absurd e (hne _ _)
          | _ => rfl
    obtain ⟨s', g1, g2⟩ := key n s st h hr hn
    exact ⟨s', by simp only [ev]; exact loopN_Loop g1, g2⟩
  | exit id =>
    intro cc s st st' h h' x hc hr he
    obtain rfl := Option.some.inj hc
    simp only [evC, Option.some.injEq, Prod.mk.injEq] at he
    obtain ⟨rfl, rfl, rfl⟩ := he
    exact ⟨s, rfl, hr⟩
  | ret =>
    intro cc s st st' h h' x hc hr he
    obtain rfl := Option.some.inj hc
    simp only [evC, Option.some.injEq, Prod.mk.injEq] at he
    obtain ⟨rfl, rfl, rfl⟩ := he
    exact ⟨s, rfl, hr⟩
  | _ =>
    intro cc s st st' h h' x hc
    simp only [ccode] at hc
    cases hc

def resC (T : TT) (st : Env) (h : Hp) : ResultVar → Option AV
  | .tmp t => some (get st t)
  | .cell a t => ld T h t (get st a)

def okRes (K : Nat → Bool) : ResultVar → Bool
  | .tmp t => K t
  | .cell a _ => K a

theorem resC_eq {s : Fr} {st : Env} {h : Hp} (hr : RR K s st) : ∀ (l : List ResultVar), l.all (okRes K) = true → allSome (resOf T K s h) l = allSome (resC T st h) l
  | [], _ => rfl
  | r :: l, hk => by
    simp only [List.all_cons, Bool.and_eq_true] at hk
    have h1 : resOf T K s h r = resC T st h r := by
      cases r with
      | tmp t =>
        have ht : K t = true := hk.1
        simp only [resOf, resC, ht, if_true]
        rw [hr t ht]
      | cell a t =>
        have ht : K a = true := hk.1
        simp only [resOf, resC, ht, if_true]
        rw [hr a ht]
    simp only [allSome, h1, resC_eq hr l hk.2]

def ini : Nat → List AV → Env
  | _, [] => []
  | k, a :: l => (k, a) :: ini (k + 1) l

theorem get_ini : ∀ (l : List AV) (k t : Nat), get (ini k l) (k + t) = l.getD t (.lit undef)
  | [], k, t => by simp [ini, get]
  | a :: l, k, 0 => by simp [ini, get]
  | a :: l, k, t + 1 => by
    simp only [ini, get]
    rw [if_neg (by omega), show k + (t + 1) = k + 1 + t by omega, get_ini l (k + 1) t]
    simp

/-- A function, compact. -/
def cfun (S : FuncId → Bool) (K : Nat → Bool) (fn : Func) : Option (CC × List ResultVar) :=
  match fn.body with
  | some c => if fn.results.toList.all (okRes K) = true then (ccode S K fn.ntmps c).map (·, fn.results.toList) else none
  | none => none

/-- How a run ends with results. -/
def Ends (T : TT) (x : RE) (res : List ResultVar) (Q : AV → Hp → Prop) : Prop :=
  ∃ ex st h vs, x = some (ex, st, h) ∧ (ex = .normal ∨ ex = .ret) ∧ allSome (resC T st h) res = some vs ∧ Q (results1 vs) h

theorem body_st {fn : Func} {cc : CC} {res : List ResultVar} (hc : cfun C.still K fn = some (cc, res)) {args : List AV} (ha : args.length ≤ fn.ntmps) {h : Hp} {Q : AV → Hp → Prop} {st0 : Env} (h0 : ∀ t, K t = true → get st0 t = args.getD t (.lit undef))
    (e : Ends T (evC T C cc st0 h) res Q) : ∃ v h', body T C K fn args h = some (v, h') ∧ Q v h' := by
  obtain ⟨ex, st, h1, vs, e1, e2, e3, e4⟩ := e
  unfold cfun at hc
  split at hc
  · rename_i c hb
    split at hc
    · rename_i hk
      obtain ⟨cc', hcc, hq⟩ := Option.map_eq_some_iff.1 hc
      simp only [Prod.mk.injEq] at hq
      obtain ⟨rfl, rfl⟩ := hq
      obtain ⟨s', g1, g2⟩ := cc_ok c cc' (fun t => args.getD t (.lit undef)) st0 st h h1 ex hcc (fun t ht => (h0 t ht).symm) e1
      refine ⟨results1 vs, h1, ?_, e4⟩
      unfold body
      simp only [ha, if_true, hb, g1]
      have := resC_eq (T := T) (h := h1) g2 _ hk
      rcases e2 with rfl | rfl <;> simp only [this, e3, Option.map_some]
    · cases hc
  · cases hc

/-- The slots that count, with the arguments. -/
def iniK (kept : List Nat) (args : List AV) : Env := kept.map fun t => (t, args.getD t (.lit undef))

theorem get_iniK : ∀ (kept : List Nat) (args : List AV) (t : Nat), kept.contains t = true → get (iniK kept args) t = args.getD t (.lit undef)
  | [], args, t, h => by simp at h
  | u :: l, args, t, h => by
    simp only [iniK, List.map_cons, get]
    split
    · rename_i e; rw [e]
    · rename_i e
      refine get_iniK l args t ?_
      simp only [List.contains_cons, Bool.or_eq_true, beq_iff_eq] at h
      exact h.resolve_left e

end

/-- A function whose results are frozen. -/
theorem Pc_fz {p : Pk} {f : FuncId} {fn : Func} {cc : CC} {res : List ResultVar} (hX : p.X f = none) (hz : p.fz f = true) (hf : p.P.funcs[f]? = some fn) (hc : cfun p.still (p.K f) fn = some (cc, res))
    {args : List AV} (ha : args.length ≤ fn.ntmps) {h : Hp} {v : AV} {st0 : Env} (h0 : ∀ t, p.K f t = true → get st0 t = args.getD t (.lit undef))
    (e : Ends p.T (evC p.T (Pc p) cc st0 { h with lo := h.next }) res (fun r h1 => frz h1 h.next 40 r = some v)) : Pc p f args h = some (v, h) := by
  obtain ⟨r, h1, g1, g2⟩ := body_st hc ha h0 e
  rw [Pc_eq]
  unfold callF
  simp only [hX, hf, hz, if_true, g1, g2, Option.map_some]

/-- A function whose results are its own. -/
theorem Pc_own {p : Pk} {f : FuncId} {fn : Func} {cc : CC} {res : List ResultVar} (hX : p.X f = none) (hz : p.fz f = false) (hf : p.P.funcs[f]? = some fn) (hc : cfun p.still (p.K f) fn = some (cc, res))
    {args : List AV} (ha : args.length ≤ fn.ntmps) {h : Hp} {Q : AV → Hp → Prop} {st0 : Env} (h0 : ∀ t, p.K f t = true → get st0 t = args.getD t (.lit undef))
    (e : Ends p.T (evC p.T (Pc p) cc st0 h) res Q) : ∃ v h', Pc p f args h = some (v, h') ∧ Q v h' := by
  obtain ⟨r, h1, g1, g2⟩ := body_st hc ha h0 e
  refine ⟨r, h1, ?_, g2⟩
  rw [Pc_eq]
  unfold callF
  simp only [hX, hf, hz, Bool.false_eq_true, if_false, g1]

/-- A loop's rule. -/
theorem LoopM_rule {b : Env → Hp → RE} {I : Nat → Env → Hp → Prop} {Q : Ex → Env → Hp → Prop}
    (step : ∀ n s h, I n s h → ∃ e s' h', b s h = some (e, s', h') ∧ ((e = .normal ∧ ∃ m, m < n ∧ I m s' h') ∨ (e ≠ .normal ∧ Q e s' h'))) :
    ∀ n s h, I n s h → ∃ e s' h', LoopM b s h = some (e, s', h') ∧ Q e s' h' := by
  have key : ∀ n s h, I n s h → ∃ k e s' h', loopM b k s h = some (e, s', h') ∧ Q e s' h' := by
    intro n
    induction n using Nat.strongRecOn with
    | _ n ih =>
      intro s h hI
      obtain ⟨e, s', h', e1, e2⟩ := step n s h hI
      rcases e2 with ⟨rfl, m, hm, hI'⟩ | ⟨hne, hQ⟩
      · obtain ⟨k, e, s2, h2, g1, g2⟩ := ih m hm s' h' hI'
        exact ⟨k + 1, e, s2, h2, by simp only [loopM, e1]; exact g1, g2⟩
      · refine ⟨1, e, s', h', ?_, hQ⟩
        simp only [loopM, e1]
        cases e with
        | normal => exact absurd rfl hne
        | _ => rfl
  intro n s h hI
  obtain ⟨k, e, s', h', g1, g2⟩ := key n s h hI
  exact ⟨e, s', h', loopM_LoopM g1, g2⟩
end Go.Proofs.Ev
end
section
/- The types' table of a program; what an operation comes to. -/
set_option linter.unusedVariables false
set_option linter.unusedSimpArgs false
namespace Go.Proofs.Ev
open Go Go.RowKit

def avOf : Value → AV
  | .slice none 0 0 => .nilS
  | v => .lit v

theorem conc_avOf (v : Value) : concVal (avOf v) = v := by
  unfold avOf
  split <;> rfl

def teOf (P : Program) (t : TypeId) : Option TE :=
  match P.info? t with
  | none => none
  | some i => match i.zero with
    | none => none
    | some z =>
      if ((z.cells.toList.map avOf).all closedB && (z.cells.toList.map avOf).length == i.size && decide (i.bytes ≤ 1024) && (P.underlying t).isSome) = true then
        some { kind := (match P.underlying t with | some (.int k) => some k | _ => none), str := (match P.underlying t with | some .string => true | _ => false),
               bool := (match P.underlying t with | some .bool => true | _ => false), sl := (match P.underlying t with | some (.slice e) => some e | _ => none),
               st := stOf P t, ar := (match P.underlying t with | some (.array n e) => some (n, e) | _ => none), sz := i.size, bytes := i.bytes,
               zero := z.cells.toList.map avOf, agg := aggB P t, plain := plainOf P t }
      else none

theorem teOf_ok (P : Program) : TOk P (teOf P) := by
  intro t e h
  unfold teOf at h
  split at h
  · cases h
  · rename_i i hi
    split at h
    · cases h
    · rename_i z hz
      split at h
      · rename_i hok
        simp only [Bool.and_eq_true, beq_iff_eq, decide_eq_true_eq] at hok
        obtain ⟨⟨⟨h1, h2⟩, h3⟩, h4⟩ := hok
        obtain rfl := Option.some.inj h
        refine ⟨?_, h1, h2, h3, rfl, h4, ?_, ?_, ?_, ?_, ?_, ?_, ?_⟩
        · simp only [hi, Option.map_some, hz, List.map_map]
          congr 3
          rw [show (concVal ∘ avOf) = id from funext conc_avOf, List.map_id]
        · intro k hk
          simp only at hk
          split at hk
          · rename_i hq; rw [← Option.some.inj hk]; exact hq
          · cases hk
        · intro hk
          simp only at hk
          split at hk
          · assumption
          · cases hk
        · intro hk
          simp only at hk
          split at hk
          · assumption
          · cases hk
        · intro k hk
          simp only at hk
          split at hk
          · rename_i hq; rw [← Option.some.inj hk]; exact hq
          · cases hk
        · intro fs hk; exact hk
        · intro n el hk
          simp only at hk
          split at hk
          · rename_i hq
            injection Option.some.inj hk with h1 h2
            rw [← h1, ← h2]
            exact hq
          · cases hk
        · intro ks hk; exact hk
      · cases h
/-! The library's sorting and compacting of rows of ints, in words. -/
def intsOf : List (List AV) → Option (List Int)
  | [] => some []
  | [.lit (.int .i64 n)] :: es => (intsOf es).map (n :: ·)
  | _ => none
theorem intsOf_map : ∀ l : List Int, intsOf (l.map fun n => [I n]) = some l
  | [] => rfl
  | n :: l => by simp only [List.map_cons, intsOf, intsOf_map l, Option.map_some]
theorem intsOf_some : ∀ (es : List (List AV)) (l : List Int), intsOf es = some l → es = l.map fun n => [I n]
  | [], l, h => by
    obtain rfl := Option.some.inj h
    rfl
  | e :: es, l, h => by
    unfold intsOf at h
    split at h
    · rename_i h1; cases h1
    · rename_i n es' h1
      injection h1 with h1 h2
      subst h1 h2
      obtain ⟨l', h3, rfl⟩ := Option.map_eq_some_iff.1 h
      rw [intsOf_some es l' h3]
      rfl
    · cases h

def sortX (ti : TypeId) (args : List AV) (h : Hp) : Option (AV × Hp) :=
  match args with
  | [.own id] => match h.rows id with
    | some r => match intsOf r.es with
      | some l => if h.lo ≤ id ∧ r.ty = ti ∧ r.sz = 1 ∧ l.length < 4611686018427387904 then some (.tup [], { h with rows := updR h.rows id (some ⟨ti, 1, (l.mergeSort fun x y => decide (x ≤ y)).map fun n => [I n]⟩) }) else none
      | none => none
    | none => none
  | [.nilS] => some (.tup [], h)
  | [.imm true []] => some (.tup [], h)
  | _ => none

def compX (ti : TypeId) (args : List AV) (h : Hp) : Option (AV × Hp) :=
  match args with
  | [.own id] => match h.rows id with
    | some r => match intsOf r.es with
      | some l => if h.lo ≤ id ∧ r.ty = ti ∧ r.sz = 1 ∧ l.length ≤ 9223372036854775807 then some (.own h.next, { h with rows := updR (updR h.rows id none) h.next (some ⟨ti, 1, (Lib.compact l).map fun n => [I n]⟩), next := h.next + 1 }) else none
      | none => none
    | none => none
  | [.nilS] => some (.nilS, h)
  | [.imm true []] => some (.imm true [], h)
  | _ => none
end Go.Proofs.Ev
end
