/- The evaluator of the model's code and the functions' specs, part 4. Each part begins with a line that says what it holds. -/
import Derived.Test.YtgmimlfiedmclaaGreatJ3
section
/- Evaluating compact code: what simp knows, and the loops' rules. -/
set_option linter.unusedVariables false
set_option linter.unusedSimpArgs false
namespace Go.Proofs.Ev
open Go Go.RowKit

attribute [simp] againC evP evOp bindL get setL commits intBin allSome resC results1 bltin strBin pairUp build fillA splice part

section
variable {T : TT} {C : CT}
def wantV (v : AV) (b : Bool) : Option Bool :=
  match v with
  | .lit (.bool c) => some (c == b)
  | .lit (.tuple _) => some false
  | _ => none
@[simp] theorem wantC_none (e : Env) : wantC e none = some true := (rfl)
@[simp] theorem wantC_some (e : Env) (d : Nat) (b : Bool) : wantC e (some (d, b)) = wantV (get e d) b := by
  unfold wantC wantV
  rfl
@[simp] theorem wantV_bool (c b : Bool) : wantV (.lit (.bool c)) b = some (c == b) := (rfl)
@[simp] theorem wantV_undef (b : Bool) : wantV (.lit undef) b = some false := (rfl)
/-! Each step on its own: nothing is looked into ahead of its time. -/
noncomputable def seqC (T : TT) (C : CT) (b : CC) (x : RE) : RE := seqE x (fun st h => evC T C b st h)
noncomputable def condC (T : TT) (C : CT) (a b : CC) (st : Env) (h : Hp) (v : AV) : RE := condE v (evC T C a st h) (evC T C b st h)
def blockC (id : Nat) (x : RE) : RE := blockE id x
def regC (kept : List Nat) (st : Env) (x : Option (Env × Hp)) : RE := evReg' x kept st
def contS (T : TT) (C : CT) (d : Option Nat) (r : List Cop) (e : Env) (x : Option (AV × Hp)) : Option (Env × Hp) :=
  match x with
  | none => none
  | some (v, h') => evS T C r (bindL d v e) h'
def stepS (T : TT) (C : CT) (c : Cop) (r : List Cop) (e : Env) (h : Hp) (w : Option Bool) : Option (Env × Hp) :=
  match w with
  | none => none
  | some false => evS T C r (bindL c.d (.lit undef) e) h
  | some true => contS T C c.d r e (evP T C c.op (rhoOf (get e)) h)
open Classical in
noncomputable def ckS (T : TT) (C : CT) (ck : List Cop) (d : Option Nat) (r : List (Cop × List Cop)) (e : Env) (h : Hp) (v : AV) (p : Prop) : Option (Env × Hp) := if p then evSD T C r (bindL d v e) h else none
noncomputable def contD (T : TT) (C : CT) (ck : List Cop) (d : Option Nat) (r : List (Cop × List Cop)) (e : Env) (x : Option (AV × Hp)) : Option (Env × Hp) :=
  match x with
  | none => none
  | some (v, h') => ckS T C ck d r e h' v (againC T C e h' ck)
noncomputable def stepD (T : TT) (C : CT) (c : Cop) (ck : List Cop) (r : List (Cop × List Cop)) (e : Env) (h : Hp) (w : Option Bool) : Option (Env × Hp) :=
  match w with
  | none => none
  | some false => ckS T C ck c.d r e h (.lit undef) (againC T C e h ck)
  | some true => contD T C ck c.d r e (evP T C c.op (rhoOf (get e)) h)

@[simp] theorem evC_skip (s : Env) (h : Hp) : evC T C .skip s h = some (.normal, s, h) := (rfl)
@[simp] theorem evC_ret (s : Env) (h : Hp) : evC T C .ret s h = some (.ret, s, h) := (rfl)
@[simp] theorem evC_exit (id : Nat) (s : Env) (h : Hp) : evC T C (.exit id) s h = some (.exit id, s, h) := (rfl)
@[simp] theorem evC_seq (a b : CC) (s : Env) (h : Hp) : evC T C (.seq a b) s h = seqC T C b (evC T C a s h) := (rfl)
@[simp] theorem evC_cond (c : Operand) (a b : CC) (s : Env) (h : Hp) : evC T C (.cond c a b) s h = condC T C a b s h (rhoOf (get s) c) := (rfl)
@[simp] theorem evC_block (id : Nat) (c : CC) (s : Env) (h : Hp) : evC T C (.block id c) s h = blockC id (evC T C c s h) := (rfl)
@[simp] theorem evC_loop (c : CC) (s : Env) (h : Hp) : evC T C (.loop c) s h = LoopM (evC T C c) s h := (rfl)
@[simp] theorem evC_reg (ops : List Cop) (kept : List Nat) (s : Env) (h : Hp) : evC T C (.reg ops kept) s h = regC kept s (evS T C ops s h) := (rfl)
@[simp] theorem evC_regD (ops : List (Cop × List Cop)) (kept : List Nat) (s : Env) (h : Hp) : evC T C (.regD ops kept) s h = regC kept s (evSD T C ops s h) := (rfl)
@[simp] theorem seqC_normal (b : CC) (s : Env) (h : Hp) : seqC T C b (some (.normal, s, h)) = evC T C b s h := (rfl)
@[simp] theorem seqC_ret (b : CC) (s : Env) (h : Hp) : seqC T C b (some (.ret, s, h)) = some (.ret, s, h) := (rfl)
@[simp] theorem seqC_exit (b : CC) (id : Nat) (s : Env) (h : Hp) : seqC T C b (some (.exit id, s, h)) = some (.exit id, s, h) := (rfl)
@[simp] theorem condC_true (a b : CC) (s : Env) (h : Hp) : condC T C a b s h (.lit (.bool true)) = evC T C a s h := (rfl)
@[simp] theorem condC_false (a b : CC) (s : Env) (h : Hp) : condC T C a b s h (.lit (.bool false)) = evC T C b s h := (rfl)
@[simp] theorem blockC_normal (id : Nat) (s : Env) (h : Hp) : blockC id (some (.normal, s, h)) = some (.normal, s, h) := (rfl)
@[simp] theorem blockC_ret (id : Nat) (s : Env) (h : Hp) : blockC id (some (.ret, s, h)) = some (.ret, s, h) := (rfl)
@[simp] theorem blockC_exit (id id' : Nat) (s : Env) (h : Hp) : blockC id (some (.exit id', s, h)) = if id' = id then some (.normal, s, h) else some (.exit id', s, h) := (rfl)
@[simp] theorem regC_some (kept : List Nat) (s e : Env) (h : Hp) : regC kept s (some (e, h)) = some (.normal, commits e kept s, h) := (rfl)
@[simp] theorem evS_nil (e : Env) (h : Hp) : evS T C [] e h = some (e, h) := (rfl)
@[simp] theorem evS_cons (c : Cop) (r : List Cop) (e : Env) (h : Hp) : evS T C (c :: r) e h = stepS T C c r e h (wantC e c.g) := by
  rw [evS, stepS.eq_def]
  generalize wantC e c.g = w
  rcases w with _ | _ | _ <;> rfl
@[simp] theorem stepS_true (c : Cop) (r : List Cop) (e : Env) (h : Hp) : stepS T C c r e h (some true) = contS T C c.d r e (evP T C c.op (rhoOf (get e)) h) := (rfl)
@[simp] theorem stepS_false (c : Cop) (r : List Cop) (e : Env) (h : Hp) : stepS T C c r e h (some false) = evS T C r (bindL c.d (.lit undef) e) h := (rfl)
@[simp] theorem contS_some (d : Option Nat) (r : List Cop) (e : Env) (v : AV) (h : Hp) : contS T C d r e (some (v, h)) = evS T C r (bindL d v e) h := (rfl)
@[simp] theorem evSD_nil (e : Env) (h : Hp) : evSD T C [] e h = some (e, h) := (rfl)
@[simp] theorem evSD_cons (c : Cop) (ck : List Cop) (r : List (Cop × List Cop)) (e : Env) (h : Hp) : evSD T C ((c, ck) :: r) e h = stepD T C c ck r e h (wantC e c.g) := by
  rw [evSD, stepD.eq_def]
  generalize wantC e c.g = w
  rcases w with _ | _ | _
  · rfl
  · rfl
  · simp only [contD]
    generalize evP T C c.op (rhoOf (get e)) h = x
    rcases x with _ | ⟨v, h'⟩ <;> rfl
@[simp] theorem stepD_true (c : Cop) (ck : List Cop) (r : List (Cop × List Cop)) (e : Env) (h : Hp) : stepD T C c ck r e h (some true) = contD T C ck c.d r e (evP T C c.op (rhoOf (get e)) h) := (rfl)
@[simp] theorem stepD_false (c : Cop) (ck : List Cop) (r : List (Cop × List Cop)) (e : Env) (h : Hp) : stepD T C c ck r e h (some false) = ckS T C ck c.d r e h (.lit undef) (againC T C e h ck) := (rfl)
@[simp] theorem contD_some (ck : List Cop) (d : Option Nat) (r : List (Cop × List Cop)) (e : Env) (v : AV) (h : Hp) : contD T C ck d r e (some (v, h)) = ckS T C ck d r e h v (againC T C e h ck) := (rfl)
@[simp] theorem ckS_true (ck : List Cop) (d : Option Nat) (r : List (Cop × List Cop)) (e : Env) (v : AV) (h : Hp) : ckS T C ck d r e h v True = evSD T C r (bindL d v e) h := by simp [ckS]
end

section
variable {T : TT} {h : Hp}
@[simp] theorem bin_int (op : BinOp) (t : TypeId) (k k' : IntKind) (a b : Int) : bin T op t (.lit (.int k a)) (.lit (.int k' b)) = (match op with
    | .shl => if b < 0 then none else some (.lit (.int k (k.wrap (a * 2 ^ (min b.toNat k.bits)))))
    | .shr => if b < 0 then none else some (.lit (.int k (a.fdiv (2 ^ (min b.toNat k.bits)))))
    | _ => if k = k' then intBin op k a b else none) := (rfl)
@[simp] theorem bin_str (op : BinOp) (t : TypeId) (a b : ByteArray) : bin T op t (.lit (.string a)) (.lit (.string b)) = strBin op a b := (rfl)
@[simp] theorem bin_bool (op : BinOp) (t : TypeId) (a b : Bool) : bin T op t (.lit (.bool a)) (.lit (.bool b)) = (match ((T t).map (·.bool)).getD false, op with
    | true, .eql => some (Bo (a == b))
    | true, .neq => some (Bo (!(a == b)))
    | _, _ => none) := (rfl)
@[simp] theorem bin_agg (op : BinOp) (t : TypeId) (xs ys : List AV) : bin T op t (.agg xs) (.agg ys) = (match (T t).bind (·.plain), op with
    | some ks, .eql => (cellsEq ks xs ys).map Bo
    | some ks, .neq => (cellsEq ks xs ys).map (fun b => Bo (!b))
    | _, _ => none) := (rfl)
@[simp] theorem pick_lit (c : Bool) (a b : AV) : pick (.lit (.bool c)) a b = some (if c then a else b) := (rfl)
@[simp] theorem un_not (b : Bool) : un .not (.lit (.bool b)) = some (Bo (!b)) := (rfl)
@[simp] theorem un_neg (k : IntKind) (n : Int) : un .neg (.lit (.int k n)) = some (.lit (.int k (k.wrap (0 - n)))) := (rfl)
@[simp] theorem extr_tup (vs : List AV) (i : Nat) : extr (.tup vs) i = vs[i]? := (rfl)
@[simp] theorem fld_agg (t : TypeId) (cs : List AV) (f : Nat) : fld T t (.agg cs) f = (match (T t).bind (·.st) with
    | some fs => match fs[f]? with
      | some (off, n, true) => if off + n ≤ cs.length then some (.agg ((cs.drop off).take n)) else none
      | some (off, _, false) => cs[off]?
      | none => none
    | none => none) := by
  unfold fld
  cases (T t).bind (·.st) <;> rfl
@[simp] theorem fldAddr_elem (t : TypeId) (s : AV) (i o f : Nat) : fldAddr T t (.elem s i o) f = (match ((T t).bind (·.st)).bind (·[f]?) with
    | some (off, n, _) => if n = 0 then none else some (.elem s i (o + off))
    | none => none) := by
  unfold fldAddr
  cases ((T t).bind (·.st)).bind (·[f]?) <;> rfl
@[simp] theorem nilChk_elem (s : AV) (i o : Nat) : nilChk (.elem s i o) = some (.elem s i o) := (rfl)
@[simp] theorem nilChk_fn (f : FuncId) (a c : List AV) : nilChk (.fn f a c) = some (.fn f a c) := (rfl)
@[simp] theorem ld_elem (t : TypeId) (s : AV) (i o : Nat) : ld T h t (.elem s i o) = (match h.get s with
    | some es => match es[i]? with
      | some e => part T t e o
      | none => none
    | none => none) := (rfl)
@[simp] theorem get_nil : h.get .nilS = some [] := (rfl)
@[simp] theorem get_imm (x : Bool) (es : List (List AV)) : h.get (.imm x es) = some es := (rfl)
@[simp] theorem get_own (id : Nat) : h.get (.own id) = (h.rows id).map (·.es) := (rfl)
@[simp] theorem cells_lit (v : Value) : AV.cells (.lit v) = [.lit v] := (rfl)
@[simp] theorem cells_nil : AV.cells .nilS = [.nilS] := (rfl)
@[simp] theorem cells_imm (x : Bool) (es : List (List AV)) : AV.cells (.imm x es) = [.imm x es] := (rfl)
@[simp] theorem cells_own (id : Nat) : AV.cells (.own id) = [.own id] := (rfl)
@[simp] theorem cells_elem (s : AV) (i o : Nat) : AV.cells (.elem s i o) = [.elem s i o] := (rfl)
@[simp] theorem cells_agg (cs : List AV) : AV.cells (.agg cs) = cs := (rfl)
@[simp] theorem cells_fn (f : FuncId) (a c : List AV) : AV.cells (.fn f a c) = [.fn f a c] := (rfl)
@[simp] theorem one_int (k : IntKind) (n : Int) : AV.one (.lit (.int k n)) = true := (rfl)
@[simp] theorem one_bool (b : Bool) : AV.one (.lit (.bool b)) = true := (rfl)
@[simp] theorem one_str (s : ByteArray) : AV.one (.lit (.string s)) = true := (rfl)
@[simp] theorem one_nil : AV.one .nilS = true := (rfl)
@[simp] theorem one_imm (x : Bool) (es : List (List AV)) : AV.one (.imm x es) = true := (rfl)
@[simp] theorem one_own (id : Nat) : AV.one (.own id) = true := (rfl)
@[simp] theorem one_elem (s : AV) (i o : Nat) : AV.one (.elem s i o) = true := (rfl)
@[simp] theorem one_fn (f : FuncId) (a c : List AV) : AV.one (.fn f a c) = true := (rfl)
@[simp] theorem max_int (k : IntKind) (k' : IntKind) (x y : Int) : minmax true (.lit (.int k x)) (.lit (.int k' y)) = some (.lit (.int k (if y > x then y else x))) := (rfl)
@[simp] theorem min_int (k : IntKind) (k' : IntKind) (x y : Int) : minmax false (.lit (.int k x)) (.lit (.int k' y)) = some (.lit (.int k (if y < x then y else x))) := (rfl)
end

theorem wrap64 {x : Int} (h1 : -9223372036854775808 ≤ x) (h2 : x ≤ 9223372036854775807) : IntKind.i64.wrap x = x := by
  simp only [IntKind.wrap, IntKind.signed, IntKind.bits]
  simp
  omega

@[simp] theorem rho_tmp (f : Nat → AV) (t : Nat) : rhoOf f (.tmp t) = f t := (rfl)
@[simp] theorem rho_int (f : Nat → AV) (k : IntKind) (n : Int) : rhoOf f (.const (.int k n)) = .lit (.int k n) := (rfl)
@[simp] theorem rho_bool (f : Nat → AV) (b : Bool) : rhoOf f (.const (.bool b)) = .lit (.bool b) := (rfl)
@[simp] theorem rho_str (f : Nat → AV) (s : ByteArray) : rhoOf f (.const (.string s)) = .lit (.string s) := (rfl)
@[simp] theorem rho_nil (f : Nat → AV) : rhoOf f (.const (.slice none 0 0)) = .nilS := (rfl)
@[simp] theorem rho_func (f : Nat → AV) (g : FuncId) : rhoOf f (.func g) = .fn g [] [] := (rfl)

@[simp] theorem Ends_some {T : TT} {ex : Ex} {st : Env} {h : Hp} {res : List ResultVar} {Q : AV → Hp → Prop} :
    Ends T (some (ex, st, h)) res Q ↔ (ex = .normal ∨ ex = .ret) ∧ ∃ vs, allSome (resC T st h) res = some vs ∧ Q (results1 vs) h := by
  constructor
  · rintro ⟨ex', st', h', vs, e, h1, h2, h3⟩
    simp only [Option.some.injEq, Prod.mk.injEq] at e
    obtain ⟨rfl, rfl, rfl⟩ := e
    exact ⟨h1, vs, h2, h3⟩
  · rintro ⟨h1, vs, h2, h3⟩
    exact ⟨ex, st, h, vs, rfl, h1, h2, h3⟩

@[simp] theorem frz_lit (h : Hp) (n k : Nat) (v : Value) : frz h n (k + 1) (.lit v) = some (.lit v) := by simp [frz]
@[simp] theorem frz_lit40 (h : Hp) (n : Nat) (v : Value) : frz h n 40 (.lit v) = some (.lit v) := frz_lit h n 39 v
@[simp] theorem frz_nil40 (h : Hp) (n : Nat) : frz h n 40 .nilS = some .nilS := by
  show frz h n (39 + 1) _ = _
  simp [frz]

@[simp] theorem updR_same (s : Nat → Option Row) (t : Nat) (v : Option Row) : updR s t v t = v := by simp [updR]
@[simp] theorem updR_ne (s : Nat → Option Row) {j t : Nat} (h : j ≠ t) (v : Option Row) : updR s t v j = s j := by simp [updR, h]
@[simp] theorem updR_updR (s : Nat → Option Row) (t : Nat) (v w : Option Row) : updR (updR s t v) t w = updR s t w := by
  funext j
  simp only [updR]
  split <;> rfl

/-! Numbers of rows, one after another. -/
@[simp] theorem succ_1 (n : Nat) : n + 1 + 1 = n + 2 := rfl
@[simp] theorem succ_2 (n : Nat) : n + 2 + 1 = n + 3 := rfl
@[simp] theorem succ_3 (n : Nat) : n + 3 + 1 = n + 4 := rfl
@[simp] theorem succ_4 (n : Nat) : n + 4 + 1 = n + 5 := rfl
@[simp] theorem succ_5 (n : Nat) : n + 5 + 1 = n + 6 := rfl
@[simp] theorem succ_6 (n : Nat) : n + 6 + 1 = n + 7 := rfl
@[simp] theorem succ_7 (n : Nat) : n + 7 + 1 = n + 8 := rfl
@[simp] theorem succ_8 (n : Nat) : n + 8 + 1 = n + 9 := rfl
@[simp] theorem succ_9 (n : Nat) : n + 9 + 1 = n + 10 := rfl
@[simp] theorem succ_10 (n : Nat) : n + 10 + 1 = n + 11 := rfl
@[simp] theorem succ_11 (n : Nat) : n + 11 + 1 = n + 12 := rfl
@[simp] theorem succ_12 (n : Nat) : n + 12 + 1 = n + 13 := rfl
@[simp] theorem succ_13 (n : Nat) : n + 13 + 1 = n + 14 := rfl
@[simp] theorem succ_14 (n : Nat) : n + 14 + 1 = n + 15 := rfl
@[simp] theorem succ_15 (n : Nat) : n + 15 + 1 = n + 16 := rfl

/-- A slice's value that stands in every heap. -/
def SV (v : AV) (es : List (List AV)) : Prop := (v = .nilS ∧ es = []) ∨ ∃ x, v = .imm x es
theorem SV.get {v : AV} {es : List (List AV)} (s : SV v es) (h : Hp) : h.get v = some es := by
  rcases s with ⟨rfl, rfl⟩ | ⟨x, rfl⟩ <;> rfl

/-- A run that ends, and how. -/
def W (x : RE) (Q : Ex → Env → Hp → Prop) : Prop := ∃ e s h, x = some (e, s, h) ∧ Q e s h
@[simp] theorem W_some {e : Ex} {s : Env} {h : Hp} {Q : Ex → Env → Hp → Prop} : W (some (e, s, h)) Q ↔ Q e s h := by
  constructor
  · rintro ⟨e', s', h', e1, hq⟩
    simp only [Option.some.injEq, Prod.mk.injEq] at e1
    obtain ⟨rfl, rfl, rfl⟩ := e1
    exact hq
  · exact fun hq => ⟨e, s, h, rfl, hq⟩

/-- After a round: on with the next, or out. -/
def nxt (J : Env → Hp → Prop) (Q : Ex → Env → Hp → Prop) : Ex → Env → Hp → Prop
  | .normal, s, h => J s h
  | e, s, h => Q e s h
@[simp] theorem nxt_normal {J : Env → Hp → Prop} {Q : Ex → Env → Hp → Prop} (s : Env) (h : Hp) : nxt J Q .normal s h = J s h := (rfl)
@[simp] theorem nxt_ret {J : Env → Hp → Prop} {Q : Ex → Env → Hp → Prop} (s : Env) (h : Hp) : nxt J Q .ret s h = Q .ret s h := (rfl)
@[simp] theorem nxt_exit {J : Env → Hp → Prop} {Q : Ex → Env → Hp → Prop} (id : Nat) (s : Env) (h : Hp) : nxt J Q (.exit id) s h = Q (.exit id) s h := (rfl)

/-- A loop that counts. -/
theorem for_rule {b : Env → Hp → RE} (N : Nat) (I : Nat → Env → Hp → Prop) (Q : Ex → Env → Hp → Prop) {s : Env} {h : Hp} (h0 : I 0 s h) (hN : ∀ i s h, I i s h → i ≤ N)
    (step : ∀ i s h, I i s h → W (b s h) (nxt (I (i + 1)) Q)) : ∃ e s' h', LoopM b s h = some (e, s', h') ∧ Q e s' h' := by
  refine LoopM_rule (b := b) (I := fun n s h => ∃ i, n + i = N ∧ I i s h) (Q := Q) (fun n s h hI => ?_) (N - 0) s h ⟨0, by omega, h0⟩
  obtain ⟨i, hn, hI⟩ := hI
  obtain ⟨e, s', h', e1, hq⟩ := step i s h hI
  refine ⟨e, s', h', e1, ?_⟩
  cases e with
  | normal =>
    have := hN _ _ _ hq
    exact .inl ⟨rfl, n - 1, by omega, i + 1, by omega, hq⟩
  | exit id => exact .inr ⟨by simp, hq⟩
  | ret => exact .inr ⟨by simp, hq⟩

variable {X : FuncId → Option (List AV → Hp → Option (AV × Hp))}

/-- The library's words. -/
structure Good (X : FuncId → Option (List AV → Hp → Option (AV × Hp))) : Prop where
  none : ∀ f, f ≠ 123 ∧ f ≠ 124 → X f = none
  sort : X 123 = some (sortX 3)
  comp : X 124 = some (compX 3)
  still : (pk X).still = stl

theorem run_fz (g : Good X) {f : FuncId} {fn : Func} {cc : CC} {res : List ResultVar} {kept : List Nat} (hx : f ≠ 123 ∧ f ≠ 124) (hz : (pk X).fz f = true) (hf : (pk X).P.funcs[f]? = some fn)
    (hc : cfun stl (fun t => (kpOf f).contains t) fn = some (cc, res)) {nt : Nat} (hn : fn.ntmps = nt) (hk : kpOf f = kept) {args : List AV} {h : Hp} {v : AV} (ha : args.length ≤ nt)
    (e : Ends (pk X).T (evC (pk X).T (Pc (pk X)) cc (iniK kept args) { h with lo := h.next }) res (fun r h1 => frz h1 h.next 40 r = some v)) : Pc (pk X) f args h = some (v, h) :=
  Pc_fz (g.none f hx) hz hf (by rw [g.still]; exact hc) (by rw [hn]; exact ha) (fun t ht => get_iniK _ _ _ (by rw [← hk]; exact ht)) e

theorem run_own (g : Good X) {f : FuncId} {fn : Func} {cc : CC} {res : List ResultVar} {kept : List Nat} (hx : f ≠ 123 ∧ f ≠ 124) (hz : (pk X).fz f = false) (hf : (pk X).P.funcs[f]? = some fn)
    (hc : cfun stl (fun t => (kpOf f).contains t) fn = some (cc, res)) {nt : Nat} (hn : fn.ntmps = nt) (hk : kpOf f = kept) {args : List AV} {h : Hp} {Q : AV → Hp → Prop} (ha : args.length ≤ nt)
    (e : Ends (pk X).T (evC (pk X).T (Pc (pk X)) cc (iniK kept args) h) res Q) : ∃ v h', Pc (pk X) f args h = some (v, h') ∧ Q v h' :=
  Pc_own (g.none f hx) hz hf (by rw [g.still]; exact hc) (by rw [hn]; exact ha) (fun t ht => get_iniK _ _ _ (by rw [← hk]; exact ht)) e

theorem run_X {f : FuncId} {sem : List AV → Hp → Option (AV × Hp)} (hx : X f = some sem) (args : List AV) (h : Hp) : Pc (pk X) f args h = sem args h := by
  rw [Pc_eq]
  unfold callF
  have : (pk X).X f = some sem := hx
  rw [this]
end Go.Proofs.Ev
end
section
/- The rules by which the functions are run. Printed by seat.py. -/
set_option linter.unusedVariables false
namespace Go.Proofs.Ev
open Go Go.RowKit
variable {X : FuncId → Option (List AV → Hp → Option (AV × Hp))}
theorem r_w_FnExactNextForFaults (g : Good X) {a0 a1 : AV} {h : Hp} {v : AV} (e : Ends (pk X).T (evC (pk X).T (Pc (pk X)) cc_w_FnExactNextForFaults [(0, a0), (1, a1), (2, .lit undef), (4, .lit undef), (5, .lit undef), (6, .lit undef), (7, .lit undef), (8, .lit undef), (13, .lit undef), (25, .lit undef), (30, .lit undef)] { h with lo := h.next }) [.tmp 4] (fun r h1 => frz h1 h.next 40 r = some v)) : Pc (pk X) 4 [a0, a1] h = some (v, h) :=
  run_fz g (by decide) rfl f_w_FnExactNextForFaults c_w_FnExactNextForFaults (nt := 31) rfl (kept := [0, 1, 2, 4, 5, 6, 7, 8, 13, 25, 30]) rfl (by simp) e
theorem r_w_FnExactGuessesNow (g : Good X) {a0 a1 : AV} {h : Hp} {v : AV} (e : Ends (pk X).T (evC (pk X).T (Pc (pk X)) cc_w_FnExactGuessesNow [(0, a0), (1, a1), (2, .lit undef), (4, .lit undef), (5, .lit undef), (6, .lit undef), (7, .lit undef), (8, .lit undef), (9, .lit undef), (10, .lit undef), (11, .lit undef), (12, .lit undef), (17, .lit undef), (30, .lit undef), (35, .lit undef), (46, .lit undef), (54, .lit undef), (57, .lit undef), (65, .lit undef), (70, .lit undef), (73, .lit undef)] { h with lo := h.next }) [.tmp 4] (fun r h1 => frz h1 h.next 40 r = some v)) : Pc (pk X) 5 [a0, a1] h = some (v, h) :=
  run_fz g (by decide) rfl f_w_FnExactGuessesNow c_w_FnExactGuessesNow (nt := 74) rfl (kept := [0, 1, 2, 4, 5, 6, 7, 8, 9, 10, 11, 12, 17, 30, 35, 46, 54, 57, 65, 70, 73]) rfl (by simp) e
theorem r_w_FnExactBlameSets (g : Good X) {a0 : AV} {h : Hp} {v : AV} (e : Ends (pk X).T (evC (pk X).T (Pc (pk X)) cc_w_FnExactBlameSets [(0, a0), (1, .lit undef), (2, .lit undef), (3, .lit undef), (4, .lit undef), (5, .lit undef), (6, .lit undef), (7, .lit undef), (8, .lit undef), (9, .lit undef), (10, .lit undef), (15, .lit undef), (26, .lit undef), (31, .lit undef), (42, .lit undef), (50, .lit undef), (53, .lit undef), (60, .lit undef), (65, .lit undef), (68, .lit undef)] { h with lo := h.next }) [.tmp 2] (fun r h1 => frz h1 h.next 40 r = some v)) : Pc (pk X) 6 [a0] h = some (v, h) :=
  run_fz g (by decide) rfl f_w_FnExactBlameSets c_w_FnExactBlameSets (nt := 69) rfl (kept := [0, 1, 2, 3, 4, 5, 6, 7, 8, 9, 10, 15, 26, 31, 42, 50, 53, 60, 65, 68]) rfl (by simp) e
theorem r_w_szWorld (g : Good X) {a0 a1 : AV} {h : Hp} {v : AV} (e : Ends (pk X).T (evC (pk X).T (Pc (pk X)) cc_w_szWorld [(0, a0), (1, a1), (2, .lit undef), (4, .lit undef), (10, .lit undef), (16, .lit undef), (22, .lit undef), (28, .lit undef), (34, .lit undef), (40, .lit undef), (46, .lit undef)] { h with lo := h.next }) [.tmp 4] (fun r h1 => frz h1 h.next 40 r = some v)) : Pc (pk X) 7 [a0, a1] h = some (v, h) :=
  run_fz g (by decide) rfl f_w_szWorld c_w_szWorld (nt := 48) rfl (kept := [0, 1, 2, 4, 10, 16, 22, 28, 34, 40, 46]) rfl (by simp) e
theorem r_w_toWorld (g : Good X) {a0 : AV} {h : Hp} {v : AV} (e : Ends (pk X).T (evC (pk X).T (Pc (pk X)) cc_w_toWorld [(0, a0), (1, .lit undef), (2, .lit undef), (3, .lit undef)] { h with lo := h.next }) [.cell 2 41] (fun r h1 => frz h1 h.next 40 r = some v)) : Pc (pk X) 9 [a0] h = some (v, h) :=
  run_fz g (by decide) rfl f_w_toWorld c_w_toWorld (nt := 40) rfl (kept := [0, 1, 2, 3]) rfl (by simp) e
theorem r_w_eqWorld (g : Good X) {a0 a1 : AV} {h : Hp} {v : AV} (e : Ends (pk X).T (evC (pk X).T (Pc (pk X)) cc_w_eqWorld [(0, a0), (1, a1), (2, .lit undef), (3, .lit undef), (4, .lit undef), (10, .lit undef), (16, .lit undef), (22, .lit undef), (28, .lit undef), (34, .lit undef), (40, .lit undef), (46, .lit undef), (52, .lit undef), (57, .lit undef)] { h with lo := h.next }) [.tmp 4] (fun r h1 => frz h1 h.next 40 r = some v)) : Pc (pk X) 11 [a0, a1] h = some (v, h) :=
  run_fz g (by decide) rfl f_w_eqWorld c_w_eqWorld (nt := 58) rfl (kept := [0, 1, 2, 3, 4, 10, 16, 22, 28, 34, 40, 46, 52, 57]) rfl (by simp) e
theorem r_s_NextForFaults (g : Good X) {a0 a1 : AV} {h : Hp} {v : AV} (e : Ends (pk X).T (evC (pk X).T (Pc (pk X)) cc_s_NextForFaults [(0, a0), (1, a1), (2, .lit undef), (4, .lit undef)] { h with lo := h.next }) [.tmp 4] (fun r h1 => frz h1 h.next 40 r = some v)) : Pc (pk X) 12 [a0, a1] h = some (v, h) :=
  run_fz g (by decide) rfl f_s_NextForFaults c_s_NextForFaults (nt := 11) rfl (kept := [0, 1, 2, 4]) rfl (by simp) e
theorem r_i_NextForFaults (g : Good X) {a0 a1 : AV} {h : Hp} {v : AV} (e : Ends (pk X).T (evC (pk X).T (Pc (pk X)) cc_i_NextForFaults [(0, a0), (1, a1), (2, .lit undef), (4, .lit undef)] { h with lo := h.next }) [.tmp 4] (fun r h1 => frz h1 h.next 40 r = some v)) : Pc (pk X) 13 [a0, a1] h = some (v, h) :=
  run_fz g (by decide) rfl f_i_NextForFaults c_i_NextForFaults (nt := 11) rfl (kept := [0, 1, 2, 4]) rfl (by simp) e
theorem r_s_GuessesNow (g : Good X) {a0 a1 : AV} {h : Hp} {v : AV} (e : Ends (pk X).T (evC (pk X).T (Pc (pk X)) cc_s_GuessesNow [(0, a0), (1, a1), (2, .lit undef), (4, .lit undef), (5, .lit undef), (6, .lit undef), (7, .lit undef), (8, .lit undef), (9, .lit undef), (13, .lit undef), (29, .lit undef), (43, .lit undef)] { h with lo := h.next }) [.tmp 4] (fun r h1 => frz h1 h.next 40 r = some v)) : Pc (pk X) 14 [a0, a1] h = some (v, h) :=
  run_fz g (by decide) rfl f_s_GuessesNow c_s_GuessesNow (nt := 54) rfl (kept := [0, 1, 2, 4, 5, 6, 7, 8, 9, 13, 29, 43]) rfl (by simp) e
theorem r_i_GuessesNow (g : Good X) {a0 a1 : AV} {h : Hp} {v : AV} (e : Ends (pk X).T (evC (pk X).T (Pc (pk X)) cc_i_GuessesNow [(0, a0), (1, a1), (2, .lit undef), (4, .lit undef), (5, .lit undef), (6, .lit undef), (7, .lit undef), (9, .lit undef), (12, .lit undef), (23, .lit undef), (24, .lit undef), (25, .lit undef), (26, .lit undef), (37, .lit undef)] { h with lo := h.next }) [.tmp 4] (fun r h1 => frz h1 h.next 40 r = some v)) : Pc (pk X) 15 [a0, a1] h = some (v, h) :=
  run_fz g (by decide) rfl f_i_GuessesNow c_i_GuessesNow (nt := 44) rfl (kept := [0, 1, 2, 4, 5, 6, 7, 9, 12, 23, 24, 25, 26, 37]) rfl (by simp) e
theorem r_w_eqIntSS (g : Good X) {a0 a1 : AV} {h : Hp} {v : AV} (e : Ends (pk X).T (evC (pk X).T (Pc (pk X)) cc_w_eqIntSS [(0, a0), (1, a1), (4, .lit undef), (5, .lit undef), (10, .lit undef), (14, .lit undef), (26, .lit undef)] { h with lo := h.next }) [.tmp 4] (fun r h1 => frz h1 h.next 40 r = some v)) : Pc (pk X) 16 [a0, a1] h = some (v, h) :=
  run_fz g (by decide) rfl f_w_eqIntSS c_w_eqIntSS (nt := 27) rfl (kept := [0, 1, 4, 5, 10, 14, 26]) rfl (by simp) e
theorem r_w_markWorld (g : Good X) {a0 a1 : AV} {h : Hp} {v : AV} (e : Ends (pk X).T (evC (pk X).T (Pc (pk X)) cc_w_markWorld [(0, a0), (1, a1), (2, .lit undef), (4, .lit undef)] { h with lo := h.next }) [.tmp 4] (fun r h1 => frz h1 h.next 40 r = some v)) : Pc (pk X) 17 [a0, a1] h = some (v, h) :=
  run_fz g (by decide) rfl f_w_markWorld c_w_markWorld (nt := 34) rfl (kept := [0, 1, 2, 4]) rfl (by simp) e
theorem r_w_markIntSS (g : Good X) {a0 a1 : AV} {h : Hp} {v : AV} (e : Ends (pk X).T (evC (pk X).T (Pc (pk X)) cc_w_markIntSS [(0, a0), (1, a1), (4, .lit undef), (5, .lit undef), (9, .lit undef)] { h with lo := h.next }) [.tmp 4] (fun r h1 => frz h1 h.next 40 r = some v)) : Pc (pk X) 18 [a0, a1] h = some (v, h) :=
  run_fz g (by decide) rfl f_w_markIntSS c_w_markIntSS (nt := 19) rfl (kept := [0, 1, 4, 5, 9]) rfl (by simp) e
theorem r_w_heldIntSS (g : Good X) {a0 a1 : AV} {h : Hp} {v : AV} (e : Ends (pk X).T (evC (pk X).T (Pc (pk X)) cc_w_heldIntSS [(0, a0), (1, a1), (4, .lit undef), (5, .lit undef), (9, .lit undef), (19, .lit undef)] { h with lo := h.next }) [.tmp 4] (fun r h1 => frz h1 h.next 40 r = some v)) : Pc (pk X) 19 [a0, a1] h = some (v, h) :=
  run_fz g (by decide) rfl f_w_heldIntSS c_w_heldIntSS (nt := 21) rfl (kept := [0, 1, 4, 5, 9, 19]) rfl (by simp) e
theorem r_s_BlameSets (g : Good X) {a0 : AV} {h : Hp} {v : AV} (e : Ends (pk X).T (evC (pk X).T (Pc (pk X)) cc_s_BlameSets [(0, a0), (1, .lit undef), (2, .lit undef), (3, .lit undef), (4, .lit undef)] { h with lo := h.next }) [.tmp 2] (fun r h1 => frz h1 h.next 40 r = some v)) : Pc (pk X) 20 [a0] h = some (v, h) :=
  run_fz g (by decide) rfl f_s_BlameSets c_s_BlameSets (nt := 17) rfl (kept := [0, 1, 2, 3, 4]) rfl (by simp) e
theorem r_i_BlameSets (g : Good X) {a0 : AV} {h : Hp} {v : AV} (e : Ends (pk X).T (evC (pk X).T (Pc (pk X)) cc_i_BlameSets [(0, a0), (1, .lit undef), (2, .lit undef), (3, .lit undef), (4, .lit undef)] { h with lo := h.next }) [.tmp 2] (fun r h1 => frz h1 h.next 40 r = some v)) : Pc (pk X) 21 [a0] h = some (v, h) :=
  run_fz g (by decide) rfl f_i_BlameSets c_i_BlameSets (nt := 17) rfl (kept := [0, 1, 2, 3, 4]) rfl (by simp) e
theorem r_w_szNet (g : Good X) {a0 a1 : AV} {h : Hp} {v : AV} (e : Ends (pk X).T (evC (pk X).T (Pc (pk X)) cc_w_szNet [(0, a0), (1, a1), (2, .lit undef), (4, .lit undef), (10, .lit undef)] { h with lo := h.next }) [.tmp 4] (fun r h1 => frz h1 h.next 40 r = some v)) : Pc (pk X) 22 [a0, a1] h = some (v, h) :=
  run_fz g (by decide) rfl f_w_szNet c_w_szNet (nt := 12) rfl (kept := [0, 1, 2, 4, 10]) rfl (by simp) e
theorem r_w_szIntS (g : Good X) {a0 a1 : AV} {h : Hp} {v : AV} (e : Ends (pk X).T (evC (pk X).T (Pc (pk X)) cc_w_szIntS [(0, a0), (1, a1), (4, .lit undef), (10, .lit undef)] { h with lo := h.next }) [.tmp 4] (fun r h1 => frz h1 h.next 40 r = some v)) : Pc (pk X) 23 [a0, a1] h = some (v, h) :=
  run_fz g (by decide) rfl f_w_szIntS c_w_szIntS (nt := 12) rfl (kept := [0, 1, 4, 10]) rfl (by simp) e
theorem r_w_szProbeS (g : Good X) {a0 a1 : AV} {h : Hp} {v : AV} (e : Ends (pk X).T (evC (pk X).T (Pc (pk X)) cc_w_szProbeS [(0, a0), (1, a1), (4, .lit undef), (5, .lit undef), (11, .lit undef), (15, .lit undef), (25, .lit undef)] { h with lo := h.next }) [.tmp 4] (fun r h1 => frz h1 h.next 40 r = some v)) : Pc (pk X) 24 [a0, a1] h = some (v, h) :=
  run_fz g (by decide) rfl f_w_szProbeS c_w_szProbeS (nt := 27) rfl (kept := [0, 1, 4, 5, 11, 15, 25]) rfl (by simp) e
theorem r_w_szSeenS (g : Good X) {a0 a1 : AV} {h : Hp} {v : AV} (e : Ends (pk X).T (evC (pk X).T (Pc (pk X)) cc_w_szSeenS [(0, a0), (1, a1), (4, .lit undef), (10, .lit undef)] { h with lo := h.next }) [.tmp 4] (fun r h1 => frz h1 h.next 40 r = some v)) : Pc (pk X) 25 [a0, a1] h = some (v, h) :=
  run_fz g (by decide) rfl f_w_szSeenS c_w_szSeenS (nt := 12) rfl (kept := [0, 1, 4, 10]) rfl (by simp) e
theorem r_s_IsWorld (g : Good X) {a0 : AV} {h : Hp} {v : AV} (e : Ends (pk X).T (evC (pk X).T (Pc (pk X)) cc_s_IsWorld [(0, a0), (1, .lit undef), (2, .lit undef), (3, .lit undef), (4, .lit undef), (9, .lit undef), (18, .lit undef), (23, .lit undef), (32, .lit undef), (70, .lit undef)] { h with lo := h.next }) [.tmp 2] (fun r h1 => frz h1 h.next 40 r = some v)) : Pc (pk X) 26 [a0] h = some (v, h) :=
  run_fz g (by decide) rfl f_s_IsWorld c_s_IsWorld (nt := 111) rfl (kept := [0, 1, 2, 3, 4, 9, 18, 23, 32, 70]) rfl (by simp) e
theorem r_s_VerdictsNow (g : Good X) {a0 : AV} {h : Hp} {v : AV} (e : Ends (pk X).T (evC (pk X).T (Pc (pk X)) cc_s_VerdictsNow [(0, a0), (1, .lit undef), (2, .lit undef), (3, .lit undef), (4, .lit undef), (5, .lit undef), (6, .lit undef), (7, .lit undef), (8, .lit undef), (13, .lit undef), (24, .lit undef)] { h with lo := h.next }) [.tmp 2, .tmp 3] (fun r h1 => frz h1 h.next 40 r = some v)) : Pc (pk X) 27 [a0] h = some (v, h) :=
  run_fz g (by decide) rfl f_s_VerdictsNow c_s_VerdictsNow (nt := 57) rfl (kept := [0, 1, 2, 3, 4, 5, 6, 7, 8, 13, 24]) rfl (by simp) e
theorem r_w_toNet (g : Good X) {a0 : AV} {h : Hp} {v : AV} (e : Ends (pk X).T (evC (pk X).T (Pc (pk X)) cc_w_toNet [(0, a0), (1, .lit undef), (2, .lit undef), (3, .lit undef)] { h with lo := h.next }) [.cell 2 36] (fun r h1 => frz h1 h.next 40 r = some v)) : Pc (pk X) 29 [a0] h = some (v, h) :=
  run_fz g (by decide) rfl f_w_toNet c_w_toNet (nt := 12) rfl (kept := [0, 1, 2, 3]) rfl (by simp) e
theorem r_w_toIntS (g : Good X) {a0 : AV} {h : Hp} {v : AV} (e : Ends (pk X).T (evC (pk X).T (Pc (pk X)) cc_w_toIntS [(0, a0), (2, .lit undef), (3, .lit undef), (4, .lit undef), (11, .lit undef)] { h with lo := h.next }) [.tmp 2] (fun r h1 => frz h1 h.next 40 r = some v)) : Pc (pk X) 30 [a0] h = some (v, h) :=
  run_fz g (by decide) rfl f_w_toIntS c_w_toIntS (nt := 22) rfl (kept := [0, 2, 3, 4, 11]) rfl (by simp) e
theorem r_w_toProbeS (g : Good X) {a0 : AV} {h : Hp} {v : AV} (e : Ends (pk X).T (evC (pk X).T (Pc (pk X)) cc_w_toProbeS [(0, a0), (2, .lit undef), (3, .lit undef), (4, .lit undef), (11, .lit undef)] { h with lo := h.next }) [.tmp 2] (fun r h1 => frz h1 h.next 40 r = some v)) : Pc (pk X) 31 [a0] h = some (v, h) :=
  run_fz g (by decide) rfl f_w_toProbeS c_w_toProbeS (nt := 23) rfl (kept := [0, 2, 3, 4, 11]) rfl (by simp) e
theorem r_w_toBucket (g : Good X) {a0 : AV} {h : Hp} {v : AV} (e : Ends (pk X).T (evC (pk X).T (Pc (pk X)) cc_w_toBucket [(0, a0), (1, .lit undef), (2, .lit undef), (3, .lit undef)] { h with lo := h.next }) [.cell 2 38] (fun r h1 => frz h1 h.next 40 r = some v)) : Pc (pk X) 32 [a0] h = some (v, h) :=
  run_fz g (by decide) rfl f_w_toBucket c_w_toBucket (nt := 17) rfl (kept := [0, 1, 2, 3]) rfl (by simp) e
theorem r_w_toSeenS (g : Good X) {a0 : AV} {h : Hp} {v : AV} (e : Ends (pk X).T (evC (pk X).T (Pc (pk X)) cc_w_toSeenS [(0, a0), (2, .lit undef), (3, .lit undef), (4, .lit undef), (11, .lit undef)] { h with lo := h.next }) [.tmp 2] (fun r h1 => frz h1 h.next 40 r = some v)) : Pc (pk X) 33 [a0] h = some (v, h) :=
  run_fz g (by decide) rfl f_w_toSeenS c_w_toSeenS (nt := 23) rfl (kept := [0, 2, 3, 4, 11]) rfl (by simp) e
theorem r_i_IsWorld (g : Good X) {a0 : AV} {h : Hp} {v : AV} (e : Ends (pk X).T (evC (pk X).T (Pc (pk X)) cc_i_IsWorld [(0, a0), (1, .lit undef), (2, .lit undef)] { h with lo := h.next }) [.tmp 2] (fun r h1 => frz h1 h.next 40 r = some v)) : Pc (pk X) 34 [a0] h = some (v, h) :=
  run_fz g (by decide) rfl f_i_IsWorld c_i_IsWorld (nt := 90) rfl (kept := [0, 1, 2]) rfl (by simp) e
theorem r_i_VerdictsNow (g : Good X) {a0 : AV} {h : Hp} {v : AV} (e : Ends (pk X).T (evC (pk X).T (Pc (pk X)) cc_i_VerdictsNow [(0, a0), (1, .lit undef), (2, .lit undef), (3, .lit undef), (4, .lit undef), (5, .lit undef), (7, .lit undef), (8, .lit undef), (11, .lit undef), (16, .lit undef), (17, .lit undef), (18, .lit undef), (19, .lit undef)] { h with lo := h.next }) [.tmp 2, .tmp 3] (fun r h1 => frz h1 h.next 40 r = some v)) : Pc (pk X) 35 [a0] h = some (v, h) :=
  run_fz g (by decide) rfl f_i_VerdictsNow c_i_VerdictsNow (nt := 50) rfl (kept := [0, 1, 2, 3, 4, 5, 7, 8, 11, 16, 17, 18, 19]) rfl (by simp) e
theorem r_w_eqNet (g : Good X) {a0 a1 : AV} {h : Hp} {v : AV} (e : Ends (pk X).T (evC (pk X).T (Pc (pk X)) cc_w_eqNet [(0, a0), (1, a1), (2, .lit undef), (3, .lit undef), (4, .lit undef), (9, .lit undef), (15, .lit undef)] { h with lo := h.next }) [.tmp 4] (fun r h1 => frz h1 h.next 40 r = some v)) : Pc (pk X) 37 [a0, a1] h = some (v, h) :=
  run_fz g (by decide) rfl f_w_eqNet c_w_eqNet (nt := 16) rfl (kept := [0, 1, 2, 3, 4, 9, 15]) rfl (by simp) e
theorem r_w_eqIntS (g : Good X) {a0 a1 : AV} {h : Hp} {v : AV} (e : Ends (pk X).T (evC (pk X).T (Pc (pk X)) cc_w_eqIntS [(0, a0), (1, a1), (4, .lit undef), (5, .lit undef), (10, .lit undef), (14, .lit undef), (25, .lit undef)] { h with lo := h.next }) [.tmp 4] (fun r h1 => frz h1 h.next 40 r = some v)) : Pc (pk X) 38 [a0, a1] h = some (v, h) :=
  run_fz g (by decide) rfl f_w_eqIntS c_w_eqIntS (nt := 26) rfl (kept := [0, 1, 4, 5, 10, 14, 25]) rfl (by simp) e
theorem r_w_eqProbeS (g : Good X) {a0 a1 : AV} {h : Hp} {v : AV} (e : Ends (pk X).T (evC (pk X).T (Pc (pk X)) cc_w_eqProbeS [(0, a0), (1, a1), (4, .lit undef), (5, .lit undef), (10, .lit undef), (14, .lit undef), (26, .lit undef)] { h with lo := h.next }) [.tmp 4] (fun r h1 => frz h1 h.next 40 r = some v)) : Pc (pk X) 39 [a0, a1] h = some (v, h) :=
  run_fz g (by decide) rfl f_w_eqProbeS c_w_eqProbeS (nt := 27) rfl (kept := [0, 1, 4, 5, 10, 14, 26]) rfl (by simp) e
theorem r_w_eqBucket (g : Good X) {a0 a1 : AV} {h : Hp} {v : AV} (e : Ends (pk X).T (evC (pk X).T (Pc (pk X)) cc_w_eqBucket [(0, a0), (1, a1), (2, .lit undef), (3, .lit undef), (4, .lit undef), (9, .lit undef), (14, .lit undef), (19, .lit undef), (24, .lit undef)] { h with lo := h.next }) [.tmp 4] (fun r h1 => frz h1 h.next 40 r = some v)) : Pc (pk X) 40 [a0, a1] h = some (v, h) :=
  run_fz g (by decide) rfl f_w_eqBucket c_w_eqBucket (nt := 25) rfl (kept := [0, 1, 2, 3, 4, 9, 14, 19, 24]) rfl (by simp) e
theorem r_w_eqSeenS (g : Good X) {a0 a1 : AV} {h : Hp} {v : AV} (e : Ends (pk X).T (evC (pk X).T (Pc (pk X)) cc_w_eqSeenS [(0, a0), (1, a1), (4, .lit undef), (5, .lit undef), (10, .lit undef), (14, .lit undef), (26, .lit undef)] { h with lo := h.next }) [.tmp 4] (fun r h1 => frz h1 h.next 40 r = some v)) : Pc (pk X) 41 [a0, a1] h = some (v, h) :=
  run_fz g (by decide) rfl f_w_eqSeenS c_w_eqSeenS (nt := 27) rfl (kept := [0, 1, 4, 5, 10, 14, 26]) rfl (by simp) e
theorem r_s_BestRow (g : Good X) {a0 a1 : AV} {h : Hp} {v : AV} (e : Ends (pk X).T (evC (pk X).T (Pc (pk X)) cc_s_BestRow [(0, a0), (1, a1), (4, .lit undef), (5, .lit undef), (6, .lit undef), (7, .lit undef), (8, .lit undef), (14, .lit undef), (25, .lit undef)] { h with lo := h.next }) [.tmp 4] (fun r h1 => frz h1 h.next 40 r = some v)) : Pc (pk X) 42 [a0, a1] h = some (v, h) :=
  run_fz g (by decide) rfl f_s_BestRow c_s_BestRow (nt := 29) rfl (kept := [0, 1, 4, 5, 6, 7, 8, 14, 25]) rfl (by simp) e
theorem r_s_WorldMatrix (g : Good X) {a0 : AV} {h : Hp} {v : AV} (e : Ends (pk X).T (evC (pk X).T (Pc (pk X)) cc_s_WorldMatrix [(0, a0), (1, .lit undef), (2, .lit undef)] { h with lo := h.next }) [.tmp 2] (fun r h1 => frz h1 h.next 40 r = some v)) : Pc (pk X) 43 [a0] h = some (v, h) :=
  run_fz g (by decide) rfl f_s_WorldMatrix c_s_WorldMatrix (nt := 10) rfl (kept := [0, 1, 2]) rfl (by simp) e
theorem r_i_BestRow (g : Good X) {a0 a1 : AV} {h : Hp} {v : AV} (e : Ends (pk X).T (evC (pk X).T (Pc (pk X)) cc_i_BestRow [(0, a0), (1, a1), (4, .lit undef), (5, .lit undef), (6, .lit undef), (7, .lit undef), (8, .lit undef), (9, .lit undef), (12, .lit undef), (13, .lit undef), (14, .lit undef), (15, .lit undef), (24, .lit undef)] { h with lo := h.next }) [.tmp 4] (fun r h1 => frz h1 h.next 40 r = some v)) : Pc (pk X) 44 [a0, a1] h = some (v, h) :=
  run_fz g (by decide) rfl f_i_BestRow c_i_BestRow (nt := 29) rfl (kept := [0, 1, 4, 5, 6, 7, 8, 9, 12, 13, 14, 15, 24]) rfl (by simp) e
theorem r_i_WorldMatrix (g : Good X) {a0 : AV} {h : Hp} {v : AV} (e : Ends (pk X).T (evC (pk X).T (Pc (pk X)) cc_i_WorldMatrix [(0, a0), (1, .lit undef), (2, .lit undef)] { h with lo := h.next }) [.tmp 2] (fun r h1 => frz h1 h.next 40 r = some v)) : Pc (pk X) 45 [a0] h = some (v, h) :=
  run_fz g (by decide) rfl f_i_WorldMatrix c_i_WorldMatrix (nt := 10) rfl (kept := [0, 1, 2]) rfl (by simp) e
theorem r_s_l16Sets (g : Good X) {a0 a1 : AV} {h : Hp} {v : AV} (e : Ends (pk X).T (evC (pk X).T (Pc (pk X)) cc_s_l16Sets [(0, a0), (1, a1), (4, .lit undef), (5, .lit undef), (6, .lit undef), (15, .lit undef)] { h with lo := h.next }) [.tmp 4] (fun r h1 => frz h1 h.next 40 r = some v)) : Pc (pk X) 46 [a0, a1] h = some (v, h) :=
  run_fz g (by decide) rfl f_s_l16Sets c_s_l16Sets (nt := 24) rfl (kept := [0, 1, 4, 5, 6, 15]) rfl (by simp) e
theorem r_s_Explains (g : Good X) {a0 a1 a2 : AV} {h : Hp} {v : AV} (e : Ends (pk X).T (evC (pk X).T (Pc (pk X)) cc_s_Explains [(0, a0), (1, a1), (2, a2), (6, .lit undef), (7, .lit undef), (12, .lit undef), (16, .lit undef), (29, .lit undef)] { h with lo := h.next }) [.tmp 6] (fun r h1 => frz h1 h.next 40 r = some v)) : Pc (pk X) 47 [a0, a1, a2] h = some (v, h) :=
  run_fz g (by decide) rfl f_s_Explains c_s_Explains (nt := 30) rfl (kept := [0, 1, 2, 6, 7, 12, 16, 29]) rfl (by simp) e
theorem r_i_setsTo (g : Good X) {a0 a1 : AV} {h : Hp} {v : AV} (e : Ends (pk X).T (evC (pk X).T (Pc (pk X)) cc_i_setsTo [(0, a0), (1, a1), (4, .lit undef), (5, .lit undef), (6, .lit undef), (11, .lit undef)] { h with lo := h.next }) [.tmp 4] (fun r h1 => frz h1 h.next 40 r = some v)) : Pc (pk X) 48 [a0, a1] h = some (v, h) :=
  run_fz g (by decide) rfl f_i_setsTo c_i_setsTo (nt := 20) rfl (kept := [0, 1, 4, 5, 6, 11]) rfl (by simp) e
theorem r_i_Explains (g : Good X) {a0 a1 a2 : AV} {h : Hp} {v : AV} (e : Ends (pk X).T (evC (pk X).T (Pc (pk X)) cc_i_Explains [(0, a0), (1, a1), (2, a2), (6, .lit undef), (7, .lit undef), (8, .lit undef), (13, .lit undef), (14, .lit undef), (15, .lit undef), (16, .lit undef), (17, .lit undef), (28, .lit undef)] { h with lo := h.next }) [.tmp 6] (fun r h1 => frz h1 h.next 40 r = some v)) : Pc (pk X) 49 [a0, a1, a2] h = some (v, h) :=
  run_fz g (by decide) rfl f_i_Explains c_i_Explains (nt := 30) rfl (kept := [0, 1, 2, 6, 7, 8, 13, 14, 15, 16, 17, 28]) rfl (by simp) e
theorem r_w_markNet (g : Good X) {a0 a1 : AV} {h : Hp} {v : AV} (e : Ends (pk X).T (evC (pk X).T (Pc (pk X)) cc_w_markNet [(0, a0), (1, a1), (2, .lit undef), (4, .lit undef)] { h with lo := h.next }) [.tmp 4] (fun r h1 => frz h1 h.next 40 r = some v)) : Pc (pk X) 50 [a0, a1] h = some (v, h) :=
  run_fz g (by decide) rfl f_w_markNet c_w_markNet (nt := 10) rfl (kept := [0, 1, 2, 4]) rfl (by simp) e
theorem r_w_markIntS (g : Good X) {a0 a1 : AV} {h : Hp} {v : AV} (e : Ends (pk X).T (evC (pk X).T (Pc (pk X)) cc_w_markIntS [(0, a0), (1, a1), (4, .lit undef), (5, .lit undef), (9, .lit undef)] { h with lo := h.next }) [.tmp 4] (fun r h1 => frz h1 h.next 40 r = some v)) : Pc (pk X) 51 [a0, a1] h = some (v, h) :=
  run_fz g (by decide) rfl f_w_markIntS c_w_markIntS (nt := 19) rfl (kept := [0, 1, 4, 5, 9]) rfl (by simp) e
theorem r_w_markProbeS (g : Good X) {a0 a1 : AV} {h : Hp} {v : AV} (e : Ends (pk X).T (evC (pk X).T (Pc (pk X)) cc_w_markProbeS [(0, a0), (1, a1), (4, .lit undef), (5, .lit undef), (9, .lit undef)] { h with lo := h.next }) [.tmp 4] (fun r h1 => frz h1 h.next 40 r = some v)) : Pc (pk X) 52 [a0, a1] h = some (v, h) :=
  run_fz g (by decide) rfl f_w_markProbeS c_w_markProbeS (nt := 34) rfl (kept := [0, 1, 4, 5, 9]) rfl (by simp) e
theorem r_w_markSeenS (g : Good X) {a0 a1 : AV} {h : Hp} {v : AV} (e : Ends (pk X).T (evC (pk X).T (Pc (pk X)) cc_w_markSeenS [(0, a0), (1, a1), (4, .lit undef), (5, .lit undef), (9, .lit undef)] { h with lo := h.next }) [.tmp 4] (fun r h1 => frz h1 h.next 40 r = some v)) : Pc (pk X) 53 [a0, a1] h = some (v, h) :=
  run_fz g (by decide) rfl f_w_markSeenS c_w_markSeenS (nt := 50) rfl (kept := [0, 1, 4, 5, 9]) rfl (by simp) e
theorem r_w_heldIntS (g : Good X) {a0 a1 : AV} {h : Hp} {v : AV} (e : Ends (pk X).T (evC (pk X).T (Pc (pk X)) cc_w_heldIntS [(0, a0), (1, a1), (4, .lit undef), (5, .lit undef), (9, .lit undef), (17, .lit undef)] { h with lo := h.next }) [.tmp 4] (fun r h1 => frz h1 h.next 40 r = some v)) : Pc (pk X) 54 [a0, a1] h = some (v, h) :=
  run_fz g (by decide) rfl f_w_heldIntS c_w_heldIntS (nt := 21) rfl (kept := [0, 1, 4, 5, 9, 17]) rfl (by simp) e
theorem r_s_SmallestSets (g : Good X) {a0 a1 a2 : AV} {h : Hp} {v : AV} (e : Ends (pk X).T (evC (pk X).T (Pc (pk X)) cc_s_SmallestSets [(0, a0), (1, a1), (2, a2), (6, .lit undef), (7, .lit undef), (8, .lit undef), (9, .lit undef), (10, .lit undef), (25, .lit undef), (34, .lit undef), (43, .lit undef)] { h with lo := h.next }) [.tmp 6] (fun r h1 => frz h1 h.next 40 r = some v)) : Pc (pk X) 55 [a0, a1, a2] h = some (v, h) :=
  run_fz g (by decide) rfl f_s_SmallestSets c_s_SmallestSets (nt := 52) rfl (kept := [0, 1, 2, 6, 7, 8, 9, 10, 25, 34, 43]) rfl (by simp) e
theorem r_i_SmallestSets (g : Good X) {a0 a1 a2 : AV} {h : Hp} {v : AV} (e : Ends (pk X).T (evC (pk X).T (Pc (pk X)) cc_i_SmallestSets [(0, a0), (1, a1), (2, a2), (6, .lit undef), (7, .lit undef), (8, .lit undef), (10, .lit undef), (15, .lit undef), (17, .lit undef), (18, .lit undef), (19, .lit undef), (23, .lit undef), (24, .lit undef), (25, .lit undef), (26, .lit undef), (32, .lit undef), (40, .lit undef)] { h with lo := h.next }) [.tmp 6] (fun r h1 => frz h1 h.next 40 r = some v)) : Pc (pk X) 56 [a0, a1, a2] h = some (v, h) :=
  run_fz g (by decide) rfl f_i_SmallestSets c_i_SmallestSets (nt := 43) rfl (kept := [0, 1, 2, 6, 7, 8, 10, 15, 17, 18, 19, 23, 24, 25, 26, 32, 40]) rfl (by simp) e
theorem r_w_szLinkS (g : Good X) {a0 a1 : AV} {h : Hp} {v : AV} (e : Ends (pk X).T (evC (pk X).T (Pc (pk X)) cc_w_szLinkS [(0, a0), (1, a1), (4, .lit undef), (10, .lit undef)] { h with lo := h.next }) [.tmp 4] (fun r h1 => frz h1 h.next 40 r = some v)) : Pc (pk X) 57 [a0, a1] h = some (v, h) :=
  run_fz g (by decide) rfl f_w_szLinkS c_w_szLinkS (nt := 12) rfl (kept := [0, 1, 4, 10]) rfl (by simp) e
theorem r_w_szProbe (g : Good X) {a0 a1 : AV} {h : Hp} {v : AV} (e : Ends (pk X).T (evC (pk X).T (Pc (pk X)) cc_w_szProbe [(0, a0), (1, a1), (2, .lit undef), (4, .lit undef), (10, .lit undef)] { h with lo := h.next }) [.tmp 4] (fun r h1 => frz h1 h.next 40 r = some v)) : Pc (pk X) 58 [a0, a1] h = some (v, h) :=
  run_fz g (by decide) rfl f_w_szProbe c_w_szProbe (nt := 12) rfl (kept := [0, 1, 2, 4, 10]) rfl (by simp) e
theorem r_s_l1In (g : Good X) {a0 a1 a2 : AV} {h : Hp} {v : AV} (e : Ends (pk X).T (evC (pk X).T (Pc (pk X)) cc_s_l1In [(0, a0), (1, a1), (2, a2), (6, .lit undef)] { h with lo := h.next }) [.tmp 6] (fun r h1 => frz h1 h.next 40 r = some v)) : Pc (pk X) 59 [a0, a1, a2] h = some (v, h) :=
  run_fz g (by decide) rfl f_s_l1In c_s_l1In (nt := 15) rfl (kept := [0, 1, 2, 6]) rfl (by simp) e
theorem r_s_IsNet (g : Good X) {a0 : AV} {h : Hp} {v : AV} (e : Ends (pk X).T (evC (pk X).T (Pc (pk X)) cc_s_IsNet [(0, a0), (1, .lit undef), (2, .lit undef), (3, .lit undef), (4, .lit undef), (5, .lit undef), (16, .lit undef), (21, .lit undef), (62, .lit undef)] { h with lo := h.next }) [.tmp 2] (fun r h1 => frz h1 h.next 40 r = some v)) : Pc (pk X) 60 [a0] h = some (v, h) :=
  run_fz g (by decide) rfl f_s_IsNet c_s_IsNet (nt := 63) rfl (kept := [0, 1, 2, 3, 4, 5, 16, 21, 62]) rfl (by simp) e
theorem r_s_l29Set (g : Good X) {a0 a1 : AV} {h : Hp} {v : AV} (e : Ends (pk X).T (evC (pk X).T (Pc (pk X)) cc_s_l29Set [(0, a0), (1, a1), (4, .lit undef), (5, .lit undef), (9, .lit undef), (35, .lit undef)] { h with lo := h.next }) [.tmp 4] (fun r h1 => frz h1 h.next 40 r = some v)) : Pc (pk X) 61 [a0, a1] h = some (v, h) :=
  run_fz g (by decide) rfl f_s_l29Set c_s_l29Set (nt := 36) rfl (kept := [0, 1, 4, 5, 9, 35]) rfl (by simp) e
theorem r_s_AreProbes (g : Good X) {a0 a1 : AV} {h : Hp} {v : AV} (e : Ends (pk X).T (evC (pk X).T (Pc (pk X)) cc_s_AreProbes [(0, a0), (1, a1), (2, .lit undef), (4, .lit undef), (5, .lit undef), (9, .lit undef), (38, .lit undef)] { h with lo := h.next }) [.tmp 4] (fun r h1 => frz h1 h.next 40 r = some v)) : Pc (pk X) 62 [a0, a1] h = some (v, h) :=
  run_fz g (by decide) rfl f_s_AreProbes c_s_AreProbes (nt := 46) rfl (kept := [0, 1, 2, 4, 5, 9, 38]) rfl (by simp) e
theorem r_s_IsBucket (g : Good X) {a0 : AV} {h : Hp} {v : AV} (e : Ends (pk X).T (evC (pk X).T (Pc (pk X)) cc_s_IsBucket [(0, a0), (1, .lit undef), (2, .lit undef)] { h with lo := h.next }) [.tmp 2] (fun r h1 => frz h1 h.next 40 r = some v)) : Pc (pk X) 63 [a0] h = some (v, h) :=
  run_fz g (by decide) rfl f_s_IsBucket c_s_IsBucket (nt := 23) rfl (kept := [0, 1, 2]) rfl (by simp) e
theorem r_s_AreSeen (g : Good X) {a0 a1 a2 : AV} {h : Hp} {v : AV} (e : Ends (pk X).T (evC (pk X).T (Pc (pk X)) cc_s_AreSeen [(0, a0), (1, a1), (2, a2), (6, .lit undef), (7, .lit undef), (8, .lit undef), (12, .lit undef), (46, .lit undef), (68, .lit undef)] { h with lo := h.next }) [.tmp 6] (fun r h1 => frz h1 h.next 40 r = some v)) : Pc (pk X) 64 [a0, a1, a2] h = some (v, h) :=
  run_fz g (by decide) rfl f_s_AreSeen c_s_AreSeen (nt := 72) rfl (kept := [0, 1, 2, 6, 7, 8, 12, 46, 68]) rfl (by simp) e
theorem r_s_SeenAt (g : Good X) {a0 a1 : AV} {h : Hp} {v : AV} (e : Ends (pk X).T (evC (pk X).T (Pc (pk X)) cc_s_SeenAt [(0, a0), (1, a1), (4, .lit undef), (5, .lit undef), (6, .lit undef), (7, .lit undef), (8, .lit undef), (13, .lit undef), (31, .lit undef), (45, .lit undef)] { h with lo := h.next }) [.tmp 4] (fun r h1 => frz h1 h.next 40 r = some v)) : Pc (pk X) 65 [a0, a1] h = some (v, h) :=
  run_fz g (by decide) rfl f_s_SeenAt c_s_SeenAt (nt := 51) rfl (kept := [0, 1, 4, 5, 6, 7, 8, 13, 31, 45]) rfl (by simp) e
theorem r_s_RowOf (g : Good X) {a0 a1 : AV} {h : Hp} {v : AV} (e : Ends (pk X).T (evC (pk X).T (Pc (pk X)) cc_s_RowOf [(0, a0), (1, a1), (4, .lit undef), (5, .lit undef), (6, .lit undef), (7, .lit undef), (11, .lit undef), (15, .lit undef), (20, .lit undef)] { h with lo := h.next }) [.tmp 4] (fun r h1 => frz h1 h.next 40 r = some v)) : Pc (pk X) 66 [a0, a1] h = some (v, h) :=
  run_fz g (by decide) rfl f_s_RowOf c_s_RowOf (nt := 26) rfl (kept := [0, 1, 4, 5, 6, 7, 11, 15, 20]) rfl (by simp) e
theorem r_s_IsMatrix (g : Good X) {a0 a1 : AV} {h : Hp} {v : AV} (e : Ends (pk X).T (evC (pk X).T (Pc (pk X)) cc_s_IsMatrix [(0, a0), (1, a1), (4, .lit undef), (5, .lit undef), (6, .lit undef), (14, .lit undef), (18, .lit undef), (27, .lit undef), (30, .lit undef), (41, .lit undef)] { h with lo := h.next }) [.tmp 4] (fun r h1 => frz h1 h.next 40 r = some v)) : Pc (pk X) 67 [a0, a1] h = some (v, h) :=
  run_fz g (by decide) rfl f_s_IsMatrix c_s_IsMatrix (nt := 42) rfl (kept := [0, 1, 4, 5, 6, 14, 18, 27, 30, 41]) rfl (by simp) e
theorem r_s_l15Bits (g : Good X) {a0 : AV} {h : Hp} {v : AV} (e : Ends (pk X).T (evC (pk X).T (Pc (pk X)) cc_s_l15Bits [(0, a0), (2, .lit undef), (3, .lit undef), (4, .lit undef), (8, .lit undef), (17, .lit undef), (28, .lit undef)] { h with lo := h.next }) [.tmp 2] (fun r h1 => frz h1 h.next 40 r = some v)) : Pc (pk X) 68 [a0] h = some (v, h) :=
  run_fz g (by decide) rfl f_s_l15Bits c_s_l15Bits (nt := 29) rfl (kept := [0, 2, 3, 4, 8, 17, 28]) rfl (by simp) e
theorem r_w_toLinkS (g : Good X) {a0 : AV} {h : Hp} {v : AV} (e : Ends (pk X).T (evC (pk X).T (Pc (pk X)) cc_w_toLinkS [(0, a0), (2, .lit undef), (3, .lit undef), (4, .lit undef), (11, .lit undef)] { h with lo := h.next }) [.tmp 2] (fun r h1 => frz h1 h.next 40 r = some v)) : Pc (pk X) 70 [a0] h = some (v, h) :=
  run_fz g (by decide) rfl f_w_toLinkS c_w_toLinkS (nt := 23) rfl (kept := [0, 2, 3, 4, 11]) rfl (by simp) e
theorem r_w_toProbe (g : Good X) {a0 : AV} {h : Hp} {v : AV} (e : Ends (pk X).T (evC (pk X).T (Pc (pk X)) cc_w_toProbe [(0, a0), (1, .lit undef), (2, .lit undef), (3, .lit undef)] { h with lo := h.next }) [.cell 2 91] (fun r h1 => frz h1 h.next 40 r = some v)) : Pc (pk X) 71 [a0] h = some (v, h) :=
  run_fz g (by decide) rfl f_w_toProbe c_w_toProbe (nt := 15) rfl (kept := [0, 1, 2, 3]) rfl (by simp) e
theorem r_w_toSeen (g : Good X) {a0 : AV} {h : Hp} {v : AV} (e : Ends (pk X).T (evC (pk X).T (Pc (pk X)) cc_w_toSeen [(0, a0), (1, .lit undef), (2, .lit undef), (3, .lit undef)] { h with lo := h.next }) [.cell 2 89] (fun r h1 => frz h1 h.next 40 r = some v)) : Pc (pk X) 72 [a0] h = some (v, h) :=
  run_fz g (by decide) rfl f_w_toSeen c_w_toSeen (nt := 20) rfl (kept := [0, 1, 2, 3]) rfl (by simp) e
theorem r_i_IsNet (g : Good X) {a0 : AV} {h : Hp} {v : AV} (e : Ends (pk X).T (evC (pk X).T (Pc (pk X)) cc_i_IsNet [(0, a0), (1, .lit undef), (2, .lit undef), (3, .lit undef), (4, .lit undef), (15, .lit undef), (17, .lit undef), (18, .lit undef), (19, .lit undef), (20, .lit undef), (54, .lit undef)] { h with lo := h.next }) [.tmp 2] (fun r h1 => frz h1 h.next 40 r = some v)) : Pc (pk X) 73 [a0] h = some (v, h) :=
  run_fz g (by decide) rfl f_i_IsNet c_i_IsNet (nt := 56) rfl (kept := [0, 1, 2, 3, 4, 15, 17, 18, 19, 20, 54]) rfl (by simp) e
theorem r_i_allIn (g : Good X) {a0 a1 a2 : AV} {h : Hp} {v : AV} (e : Ends (pk X).T (evC (pk X).T (Pc (pk X)) cc_i_allIn [(0, a0), (1, a1), (2, a2), (6, .lit undef), (8, .lit undef), (9, .lit undef), (10, .lit undef), (11, .lit undef), (12, .lit undef), (19, .lit undef)] { h with lo := h.next }) [.tmp 6] (fun r h1 => frz h1 h.next 40 r = some v)) : Pc (pk X) 74 [a0, a1, a2] h = some (v, h) :=
  run_fz g (by decide) rfl f_i_allIn c_i_allIn (nt := 21) rfl (kept := [0, 1, 2, 6, 8, 9, 10, 11, 12, 19]) rfl (by simp) e
theorem r_i_isSet (g : Good X) {a0 a1 : AV} {h : Hp} {v : AV} (e : Ends (pk X).T (evC (pk X).T (Pc (pk X)) cc_i_isSet [(0, a0), (1, a1), (4, .lit undef)] { h with lo := h.next }) [.tmp 4] (fun r h1 => frz h1 h.next 40 r = some v)) : Pc (pk X) 75 [a0, a1] h = some (v, h) :=
  run_fz g (by decide) rfl f_i_isSet c_i_isSet (nt := 15) rfl (kept := [0, 1, 4]) rfl (by simp) e
theorem r_i_AreProbes (g : Good X) {a0 a1 : AV} {h : Hp} {v : AV} (e : Ends (pk X).T (evC (pk X).T (Pc (pk X)) cc_i_AreProbes [(0, a0), (1, a1), (2, .lit undef), (4, .lit undef)] { h with lo := h.next }) [.tmp 4] (fun r h1 => frz h1 h.next 40 r = some v)) : Pc (pk X) 76 [a0, a1] h = some (v, h) :=
  run_fz g (by decide) rfl f_i_AreProbes c_i_AreProbes (nt := 18) rfl (kept := [0, 1, 2, 4]) rfl (by simp) e
theorem r_i_IsBucket (g : Good X) {a0 : AV} {h : Hp} {v : AV} (e : Ends (pk X).T (evC (pk X).T (Pc (pk X)) cc_i_IsBucket [(0, a0), (1, .lit undef), (2, .lit undef)] { h with lo := h.next }) [.tmp 2] (fun r h1 => frz h1 h.next 40 r = some v)) : Pc (pk X) 77 [a0] h = some (v, h) :=
  run_fz g (by decide) rfl f_i_IsBucket c_i_IsBucket (nt := 23) rfl (kept := [0, 1, 2]) rfl (by simp) e
theorem r_i_AreSeen (g : Good X) {a0 a1 a2 : AV} {h : Hp} {v : AV} (e : Ends (pk X).T (evC (pk X).T (Pc (pk X)) cc_i_AreSeen [(0, a0), (1, a1), (2, a2), (6, .lit undef), (7, .lit undef), (9, .lit undef), (12, .lit undef), (13, .lit undef), (14, .lit undef), (15, .lit undef), (16, .lit undef), (52, .lit undef)] { h with lo := h.next }) [.tmp 6] (fun r h1 => frz h1 h.next 40 r = some v)) : Pc (pk X) 78 [a0, a1, a2] h = some (v, h) :=
  run_fz g (by decide) rfl f_i_AreSeen c_i_AreSeen (nt := 56) rfl (kept := [0, 1, 2, 6, 7, 9, 12, 13, 14, 15, 16, 52]) rfl (by simp) e
theorem r_i_InRange (g : Good X) {a0 a1 a2 : AV} {h : Hp} {v : AV} (e : Ends (pk X).T (evC (pk X).T (Pc (pk X)) cc_i_InRange [(0, a0), (1, a1), (2, a2), (6, .lit undef)] { h with lo := h.next }) [.tmp 6] (fun r h1 => frz h1 h.next 40 r = some v)) : Pc (pk X) 79 [a0, a1, a2] h = some (v, h) :=
  run_fz g (by decide) rfl f_i_InRange c_i_InRange (nt := 15) rfl (kept := [0, 1, 2, 6]) rfl (by simp) e
theorem r_i_SeenAt (g : Good X) {a0 a1 : AV} {h : Hp} {v : AV} (e : Ends (pk X).T (evC (pk X).T (Pc (pk X)) cc_i_SeenAt [(0, a0), (1, a1), (4, .lit undef), (5, .lit undef), (6, .lit undef), (7, .lit undef), (8, .lit undef), (9, .lit undef), (10, .lit undef), (11, .lit undef), (26, .lit undef)] { h with lo := h.next }) [.tmp 4] (fun r h1 => frz h1 h.next 40 r = some v)) : Pc (pk X) 80 [a0, a1] h = some (v, h) :=
  run_fz g (by decide) rfl f_i_SeenAt c_i_SeenAt (nt := 33) rfl (kept := [0, 1, 4, 5, 6, 7, 8, 9, 10, 11, 26]) rfl (by simp) e
theorem r_i_RowOf (g : Good X) {a0 a1 : AV} {h : Hp} {v : AV} (e : Ends (pk X).T (evC (pk X).T (Pc (pk X)) cc_i_RowOf [(0, a0), (1, a1), (4, .lit undef), (5, .lit undef), (7, .lit undef), (10, .lit undef), (13, .lit undef), (14, .lit undef), (15, .lit undef), (16, .lit undef), (21, .lit undef)] { h with lo := h.next }) [.tmp 4] (fun r h1 => frz h1 h.next 40 r = some v)) : Pc (pk X) 81 [a0, a1] h = some (v, h) :=
  run_fz g (by decide) rfl f_i_RowOf c_i_RowOf (nt := 27) rfl (kept := [0, 1, 4, 5, 7, 10, 13, 14, 15, 16, 21]) rfl (by simp) e
theorem r_i_isBits (g : Good X) {a0 a1 : AV} {h : Hp} {v : AV} (e : Ends (pk X).T (evC (pk X).T (Pc (pk X)) cc_i_isBits [(0, a0), (1, a1), (4, .lit undef)] { h with lo := h.next }) [.tmp 4] (fun r h1 => frz h1 h.next 40 r = some v)) : Pc (pk X) 82 [a0, a1] h = some (v, h) :=
  run_fz g (by decide) rfl f_i_isBits c_i_isBits (nt := 13) rfl (kept := [0, 1, 4]) rfl (by simp) e
theorem r_w_eqLinkS (g : Good X) {a0 a1 : AV} {h : Hp} {v : AV} (e : Ends (pk X).T (evC (pk X).T (Pc (pk X)) cc_w_eqLinkS [(0, a0), (1, a1), (4, .lit undef), (5, .lit undef), (10, .lit undef), (14, .lit undef), (26, .lit undef)] { h with lo := h.next }) [.tmp 4] (fun r h1 => frz h1 h.next 40 r = some v)) : Pc (pk X) 84 [a0, a1] h = some (v, h) :=
  run_fz g (by decide) rfl f_w_eqLinkS c_w_eqLinkS (nt := 27) rfl (kept := [0, 1, 4, 5, 10, 14, 26]) rfl (by simp) e
theorem r_w_eqProbe (g : Good X) {a0 a1 : AV} {h : Hp} {v : AV} (e : Ends (pk X).T (evC (pk X).T (Pc (pk X)) cc_w_eqProbe [(0, a0), (1, a1), (2, .lit undef), (3, .lit undef), (4, .lit undef), (9, .lit undef), (14, .lit undef), (20, .lit undef)] { h with lo := h.next }) [.tmp 4] (fun r h1 => frz h1 h.next 40 r = some v)) : Pc (pk X) 85 [a0, a1] h = some (v, h) :=
  run_fz g (by decide) rfl f_w_eqProbe c_w_eqProbe (nt := 21) rfl (kept := [0, 1, 2, 3, 4, 9, 14, 20]) rfl (by simp) e
theorem r_w_eqSeen (g : Good X) {a0 a1 : AV} {h : Hp} {v : AV} (e : Ends (pk X).T (evC (pk X).T (Pc (pk X)) cc_w_eqSeen [(0, a0), (1, a1), (2, .lit undef), (3, .lit undef), (4, .lit undef), (9, .lit undef), (14, .lit undef), (19, .lit undef), (24, .lit undef), (29, .lit undef)] { h with lo := h.next }) [.tmp 4] (fun r h1 => frz h1 h.next 40 r = some v)) : Pc (pk X) 86 [a0, a1] h = some (v, h) :=
  run_fz g (by decide) rfl f_w_eqSeen c_w_eqSeen (nt := 30) rfl (kept := [0, 1, 2, 3, 4, 9, 14, 19, 24, 29]) rfl (by simp) e
theorem r_s_WorstLeft (g : Good X) {a0 a1 : AV} {h : Hp} {v : AV} (e : Ends (pk X).T (evC (pk X).T (Pc (pk X)) cc_s_WorstLeft [(0, a0), (1, a1), (4, .lit undef), (5, .lit undef), (6, .lit undef), (10, .lit undef), (18, .lit undef)] { h with lo := h.next }) [.tmp 4] (fun r h1 => frz h1 h.next 40 r = some v)) : Pc (pk X) 87 [a0, a1] h = some (v, h) :=
  run_fz g (by decide) rfl f_s_WorstLeft c_s_WorstLeft (nt := 27) rfl (kept := [0, 1, 4, 5, 6, 10, 18]) rfl (by simp) e
theorem r_s_MatrixOf (g : Good X) {a0 a1 : AV} {h : Hp} {v : AV} (e : Ends (pk X).T (evC (pk X).T (Pc (pk X)) cc_s_MatrixOf [(0, a0), (1, a1), (4, .lit undef), (5, .lit undef), (6, .lit undef), (11, .lit undef)] { h with lo := h.next }) [.tmp 4] (fun r h1 => frz h1 h.next 40 r = some v)) : Pc (pk X) 88 [a0, a1] h = some (v, h) :=
  run_fz g (by decide) rfl f_s_MatrixOf c_s_MatrixOf (nt := 25) rfl (kept := [0, 1, 4, 5, 6, 11]) rfl (by simp) e
theorem r_i_WorstLeft (g : Good X) {a0 a1 : AV} {h : Hp} {v : AV} (e : Ends (pk X).T (evC (pk X).T (Pc (pk X)) cc_i_WorstLeft [(0, a0), (1, a1), (4, .lit undef), (5, .lit undef)] { h with lo := h.next }) [.tmp 4] (fun r h1 => frz h1 h.next 40 r = some v)) : Pc (pk X) 89 [a0, a1] h = some (v, h) :=
  run_fz g (by decide) rfl f_i_WorstLeft c_i_WorstLeft (nt := 16) rfl (kept := [0, 1, 4, 5]) rfl (by simp) e
theorem r_i_MatrixOf (g : Good X) {a0 a1 : AV} {h : Hp} {v : AV} (e : Ends (pk X).T (evC (pk X).T (Pc (pk X)) cc_i_MatrixOf [(0, a0), (1, a1), (4, .lit undef), (5, .lit undef), (7, .lit undef), (8, .lit undef), (9, .lit undef), (10, .lit undef), (11, .lit undef)] { h with lo := h.next }) [.tmp 4] (fun r h1 => frz h1 h.next 40 r = some v)) : Pc (pk X) 90 [a0, a1] h = some (v, h) :=
  run_fz g (by decide) rfl f_i_MatrixOf c_i_MatrixOf (nt := 23) rfl (kept := [0, 1, 4, 5, 7, 8, 9, 10, 11]) rfl (by simp) e
theorem r_s_SetsOf (g : Good X) {a0 a1 : AV} {h : Hp} {v : AV} (e : Ends (pk X).T (evC (pk X).T (Pc (pk X)) cc_s_SetsOf [(0, a0), (1, a1), (4, .lit undef), (5, .lit undef), (6, .lit undef), (7, .lit undef), (8, .lit undef), (9, .lit undef), (10, .lit undef), (20, .lit undef), (28, .lit undef), (35, .lit undef), (43, .lit undef), (60, .lit undef)] { h with lo := h.next }) [.tmp 4] (fun r h1 => frz h1 h.next 40 r = some v)) : Pc (pk X) 91 [a0, a1] h = some (v, h) :=
  run_fz g (by decide) rfl f_s_SetsOf c_s_SetsOf (nt := 77) rfl (kept := [0, 1, 4, 5, 6, 7, 8, 9, 10, 20, 28, 35, 43, 60]) rfl (by simp) e
theorem r_s_FailsWith (g : Good X) {a0 a1 : AV} {h : Hp} {v : AV} (e : Ends (pk X).T (evC (pk X).T (Pc (pk X)) cc_s_FailsWith [(0, a0), (1, a1), (4, .lit undef), (5, .lit undef), (9, .lit undef), (29, .lit undef)] { h with lo := h.next }) [.tmp 4] (fun r h1 => frz h1 h.next 40 r = some v)) : Pc (pk X) 92 [a0, a1] h = some (v, h) :=
  run_fz g (by decide) rfl f_s_FailsWith c_s_FailsWith (nt := 30) rfl (kept := [0, 1, 4, 5, 9, 29]) rfl (by simp) e
theorem r_i_SetsOf (g : Good X) {a0 a1 : AV} {h : Hp} {v : AV} (e : Ends (pk X).T (evC (pk X).T (Pc (pk X)) cc_i_SetsOf [(0, a0), (1, a1), (2, .lit undef), (3, .lit undef), (4, .lit undef), (5, .lit undef), (6, .lit undef), (15, .lit undef)] { h with lo := h.next }) [.tmp 4] (fun r h1 => frz h1 h.next 40 r = some v)) : Pc (pk X) 93 [a0, a1] h = some (v, h) :=
  run_fz g (by decide) rfl f_i_SetsOf c_i_SetsOf (nt := 21) rfl (kept := [0, 1, 2, 3, 4, 5, 6, 15]) rfl (by simp) e
theorem r_i_FailsWith (g : Good X) {a0 a1 : AV} {h : Hp} {v : AV} (e : Ends (pk X).T (evC (pk X).T (Pc (pk X)) cc_i_FailsWith [(0, a0), (1, a1), (2, .lit undef), (4, .lit undef)] { h with lo := h.next }) [.tmp 4] (fun r h1 => frz h1 h.next 40 r = some v)) : Pc (pk X) 94 [a0, a1] h = some (v, h) :=
  run_fz g (by decide) rfl f_i_FailsWith c_i_FailsWith (nt := 8) rfl (kept := [0, 1, 2, 4]) rfl (by simp) e
theorem r_w_markLinkS (g : Good X) {a0 a1 : AV} {h : Hp} {v : AV} (e : Ends (pk X).T (evC (pk X).T (Pc (pk X)) cc_w_markLinkS [(0, a0), (1, a1), (4, .lit undef), (5, .lit undef), (9, .lit undef)] { h with lo := h.next }) [.tmp 4] (fun r h1 => frz h1 h.next 40 r = some v)) : Pc (pk X) 95 [a0, a1] h = some (v, h) :=
  run_fz g (by decide) rfl f_w_markLinkS c_w_markLinkS (nt := 27) rfl (kept := [0, 1, 4, 5, 9]) rfl (by simp) e
theorem r_s_AreVerdicts (g : Good X) {a0 a1 a2 : AV} {h : Hp} {v : AV} (e : Ends (pk X).T (evC (pk X).T (Pc (pk X)) cc_s_AreVerdicts [(0, a0), (1, a1), (2, a2), (6, .lit undef)] { h with lo := h.next }) [.tmp 6] (fun r h1 => frz h1 h.next 40 r = some v)) : Pc (pk X) 96 [a0, a1, a2] h = some (v, h) :=
  run_fz g (by decide) rfl f_s_AreVerdicts c_s_AreVerdicts (nt := 21) rfl (kept := [0, 1, 2, 6]) rfl (by simp) e
theorem r_i_AreVerdicts (g : Good X) {a0 a1 a2 : AV} {h : Hp} {v : AV} (e : Ends (pk X).T (evC (pk X).T (Pc (pk X)) cc_i_AreVerdicts [(0, a0), (1, a1), (2, a2), (6, .lit undef)] { h with lo := h.next }) [.tmp 6] (fun r h1 => frz h1 h.next 40 r = some v)) : Pc (pk X) 97 [a0, a1, a2] h = some (v, h) :=
  run_fz g (by decide) rfl f_i_AreVerdicts c_i_AreVerdicts (nt := 17) rfl (kept := [0, 1, 2, 6]) rfl (by simp) e
theorem r_s_LinkOf (g : Good X) {a0 a1 a2 : AV} {h : Hp} {v : AV} (e : Ends (pk X).T (evC (pk X).T (Pc (pk X)) cc_s_LinkOf [(0, a0), (1, a1), (2, a2), (3, .lit undef), (6, .lit undef), (7, .lit undef), (12, .lit undef), (34, .lit undef)] { h with lo := h.next }) [.tmp 6] (fun r h1 => frz h1 h.next 40 r = some v)) : Pc (pk X) 98 [a0, a1, a2] h = some (v, h) :=
  run_fz g (by decide) rfl f_s_LinkOf c_s_LinkOf (nt := 36) rfl (kept := [0, 1, 2, 3, 6, 7, 12, 34]) rfl (by simp) e
theorem r_s_IsPath (g : Good X) {a0 a1 a2 a3 : AV} {h : Hp} {v : AV} (e : Ends (pk X).T (evC (pk X).T (Pc (pk X)) cc_s_IsPath [(0, a0), (1, a1), (2, a2), (3, a3), (4, .lit undef), (8, .lit undef), (9, .lit undef), (13, .lit undef), (23, .lit undef)] { h with lo := h.next }) [.tmp 8] (fun r h1 => frz h1 h.next 40 r = some v)) : Pc (pk X) 99 [a0, a1, a2, a3] h = some (v, h) :=
  run_fz g (by decide) rfl f_s_IsPath c_s_IsPath (nt := 39) rfl (kept := [0, 1, 2, 3, 4, 8, 9, 13, 23]) rfl (by simp) e
theorem r_s_l7Has (g : Good X) {a0 a1 : AV} {h : Hp} {v : AV} (e : Ends (pk X).T (evC (pk X).T (Pc (pk X)) cc_s_l7Has [(0, a0), (1, a1), (4, .lit undef), (5, .lit undef), (9, .lit undef), (17, .lit undef)] { h with lo := h.next }) [.tmp 4] (fun r h1 => frz h1 h.next 40 r = some v)) : Pc (pk X) 100 [a0, a1] h = some (v, h) :=
  run_fz g (by decide) rfl f_s_l7Has c_s_l7Has (nt := 18) rfl (kept := [0, 1, 4, 5, 9, 17]) rfl (by simp) e
theorem r_w_toLink (g : Good X) {a0 : AV} {h : Hp} {v : AV} (e : Ends (pk X).T (evC (pk X).T (Pc (pk X)) cc_w_toLink [(0, a0), (1, .lit undef), (2, .lit undef), (3, .lit undef)] { h with lo := h.next }) [.cell 2 109] (fun r h1 => frz h1 h.next 40 r = some v)) : Pc (pk X) 101 [a0] h = some (v, h) :=
  run_fz g (by decide) rfl f_w_toLink c_w_toLink (nt := 11) rfl (kept := [0, 1, 2, 3]) rfl (by simp) e
theorem r_i_at (g : Good X) {a0 a1 : AV} {h : Hp} {v : AV} (e : Ends (pk X).T (evC (pk X).T (Pc (pk X)) cc_i_at [(0, a0), (1, a1), (4, .lit undef)] { h with lo := h.next }) [.tmp 4] (fun r h1 => frz h1 h.next 40 r = some v)) : Pc (pk X) 102 [a0, a1] h = some (v, h) :=
  run_fz g (by decide) rfl f_i_at c_i_at (nt := 12) rfl (kept := [0, 1, 4]) rfl (by simp) e
theorem r_i_LinkOf (g : Good X) {a0 a1 a2 : AV} {h : Hp} {v : AV} (e : Ends (pk X).T (evC (pk X).T (Pc (pk X)) cc_i_LinkOf [(0, a0), (1, a1), (2, a2), (3, .lit undef), (4, .lit undef), (5, .lit undef), (6, .lit undef)] { h with lo := h.next }) [.tmp 6] (fun r h1 => frz h1 h.next 40 r = some v)) : Pc (pk X) 103 [a0, a1, a2] h = some (v, h) :=
  run_fz g (by decide) rfl f_i_LinkOf c_i_LinkOf (nt := 11) rfl (kept := [0, 1, 2, 3, 4, 5, 6]) rfl (by simp) e
theorem r_sl_Equal_Sint_int (g : Good X) {a0 a1 : AV} {h : Hp} {v : AV} (e : Ends (pk X).T (evC (pk X).T (Pc (pk X)) cc_sl_Equal_Sint_int [(0, a0), (1, a1), (4, .lit undef), (5, .lit undef), (10, .lit undef), (12, .lit undef), (13, .lit undef), (14, .lit undef), (24, .lit undef)] { h with lo := h.next }) [.tmp 4] (fun r h1 => frz h1 h.next 40 r = some v)) : Pc (pk X) 104 [a0, a1] h = some (v, h) :=
  run_fz g (by decide) rfl f_sl_Equal_Sint_int c_sl_Equal_Sint_int (nt := 26) rfl (kept := [0, 1, 4, 5, 10, 12, 13, 14, 24]) rfl (by simp) e
theorem r_i_sorted (g : Good X) {a0 : AV} {h : Hp} {v : AV} (e : Ends (pk X).T (evC (pk X).T (Pc (pk X)) cc_i_sorted [(0, a0), (2, .lit undef), (3, .lit undef)] { h with lo := h.next }) [.tmp 2] (fun r h1 => frz h1 h.next 40 r = some v)) : Pc (pk X) 105 [a0] h = some (v, h) :=
  run_fz g (by decide) rfl f_i_sorted c_i_sorted (nt := 10) rfl (kept := [0, 2, 3]) rfl (by simp) e
theorem r_sl_ContainsFunc_Si_Probe_i_Probe (g : Good X) {a0 a1 : AV} {h : Hp} {v : AV} (e : Ends (pk X).T (evC (pk X).T (Pc (pk X)) cc_sl_ContainsFunc_Si_Probe_i_Probe [(0, a0), (1, a1), (4, .lit undef)] { h with lo := h.next }) [.tmp 4] (fun r h1 => frz h1 h.next 40 r = some v)) : Pc (pk X) 106 [a0, a1] h = some (v, h) :=
  run_fz g (by decide) rfl f_sl_ContainsFunc_Si_Probe_i_Probe c_sl_ContainsFunc_Si_Probe_i_Probe (nt := 9) rfl (kept := [0, 1, 4]) rfl (by simp) e
theorem r_i_AreProbes_1 (g : Good X) {a0 a1 : AV} {h : Hp} {v : AV} (e : Ends (pk X).T (evC (pk X).T (Pc (pk X)) cc_i_AreProbes_1 [(0, a0), (1, a1), (2, .lit undef), (3, .lit undef)] { h with lo := h.next }) [.tmp 3] (fun r h1 => frz h1 h.next 40 r = some v)) : Pc (pk X) 107 [a0, a1] h = some (v, h) :=
  run_fz g (by decide) rfl f_i_AreProbes_1 c_i_AreProbes_1 (nt := 19) rfl (kept := [0, 1, 2, 3]) rfl (by simp) e
theorem r_i_IsPath (g : Good X) {a0 a1 a2 a3 : AV} {h : Hp} {v : AV} (e : Ends (pk X).T (evC (pk X).T (Pc (pk X)) cc_i_IsPath [(0, a0), (1, a1), (2, a2), (3, a3), (4, .lit undef), (8, .lit undef), (9, .lit undef), (10, .lit undef), (11, .lit undef), (12, .lit undef), (13, .lit undef), (14, .lit undef), (22, .lit undef)] { h with lo := h.next }) [.tmp 8] (fun r h1 => frz h1 h.next 40 r = some v)) : Pc (pk X) 108 [a0, a1, a2, a3] h = some (v, h) :=
  run_fz g (by decide) rfl f_i_IsPath c_i_IsPath (nt := 39) rfl (kept := [0, 1, 2, 3, 4, 8, 9, 10, 11, 12, 13, 14, 22]) rfl (by simp) e
theorem r_i_latest (g : Good X) {a0 a1 : AV} {h : Hp} {v : AV} (e : Ends (pk X).T (evC (pk X).T (Pc (pk X)) cc_i_latest [(0, a0), (1, a1), (4, .lit undef)] { h with lo := h.next }) [.tmp 4] (fun r h1 => frz h1 h.next 40 r = some v)) : Pc (pk X) 109 [a0, a1] h = some (v, h) :=
  run_fz g (by decide) rfl f_i_latest c_i_latest (nt := 12) rfl (kept := [0, 1, 4]) rfl (by simp) e
theorem r_i_IsMatrix (g : Good X) {a0 a1 : AV} {h : Hp} {v : AV} (e : Ends (pk X).T (evC (pk X).T (Pc (pk X)) cc_i_IsMatrix [(0, a0), (1, a1), (4, .lit undef), (6, .lit undef), (14, .lit undef), (15, .lit undef), (16, .lit undef), (17, .lit undef), (18, .lit undef), (29, .lit undef)] { h with lo := h.next }) [.tmp 4] (fun r h1 => frz h1 h.next 40 r = some v)) : Pc (pk X) 110 [a0, a1] h = some (v, h) :=
  run_fz g (by decide) rfl f_i_IsMatrix c_i_IsMatrix (nt := 31) rfl (kept := [0, 1, 4, 6, 14, 15, 16, 17, 18, 29]) rfl (by simp) e
theorem r_sl_ContainsFunc_SSint_Sint (g : Good X) {a0 a1 : AV} {h : Hp} {v : AV} (e : Ends (pk X).T (evC (pk X).T (Pc (pk X)) cc_sl_ContainsFunc_SSint_Sint [(0, a0), (1, a1), (4, .lit undef)] { h with lo := h.next }) [.tmp 4] (fun r h1 => frz h1 h.next 40 r = some v)) : Pc (pk X) 111 [a0, a1] h = some (v, h) :=
  run_fz g (by decide) rfl f_sl_ContainsFunc_SSint_Sint c_sl_ContainsFunc_SSint_Sint (nt := 9) rfl (kept := [0, 1, 4]) rfl (by simp) e
theorem r_i_isBits_1 (g : Good X) {a0 : AV} {h : Hp} {v : AV} (e : Ends (pk X).T (evC (pk X).T (Pc (pk X)) cc_i_isBits_1 [(0, a0), (2, .lit undef)] { h with lo := h.next }) [.tmp 2] (fun r h1 => frz h1 h.next 40 r = some v)) : Pc (pk X) 112 [a0] h = some (v, h) :=
  run_fz g (by decide) rfl f_i_isBits_1 c_i_isBits_1 (nt := 6) rfl (kept := [0, 2]) rfl (by simp) e
theorem r_w_eqLink (g : Good X) {a0 a1 : AV} {h : Hp} {v : AV} (e : Ends (pk X).T (evC (pk X).T (Pc (pk X)) cc_w_eqLink [(0, a0), (1, a1), (2, .lit undef), (3, .lit undef), (4, .lit undef), (9, .lit undef), (14, .lit undef)] { h with lo := h.next }) [.tmp 4] (fun r h1 => frz h1 h.next 40 r = some v)) : Pc (pk X) 113 [a0, a1] h = some (v, h) :=
  run_fz g (by decide) rfl f_w_eqLink c_w_eqLink (nt := 15) rfl (kept := [0, 1, 2, 3, 4, 9, 14]) rfl (by simp) e
theorem r_s_Max (g : Good X) {a0 a1 : AV} {h : Hp} {v : AV} (e : Ends (pk X).T (evC (pk X).T (Pc (pk X)) cc_s_Max [(0, a0), (1, a1), (4, .lit undef), (7, .lit undef)] { h with lo := h.next }) [.tmp 4] (fun r h1 => frz h1 h.next 40 r = some v)) : Pc (pk X) 114 [a0, a1] h = some (v, h) :=
  run_fz g (by decide) rfl f_s_Max c_s_Max (nt := 10) rfl (kept := [0, 1, 4, 7]) rfl (by simp) e
theorem r_i_AfterVerdict (g : Good X) {a0 a1 a2 : AV} {h : Hp} {v : AV} (e : Ends (pk X).T (evC (pk X).T (Pc (pk X)) cc_i_AfterVerdict [(0, a0), (1, a1), (2, a2), (6, .lit undef), (7, .lit undef), (9, .lit undef), (10, .lit undef), (11, .lit undef), (12, .lit undef), (13, .lit undef), (20, .lit undef)] { h with lo := h.next }) [.tmp 6] (fun r h1 => frz h1 h.next 40 r = some v)) : Pc (pk X) 115 [a0, a1, a2] h = some (v, h) :=
  run_fz g (by decide) rfl f_i_AfterVerdict c_i_AfterVerdict (nt := 28) rfl (kept := [0, 1, 2, 6, 7, 9, 10, 11, 12, 13, 20]) rfl (by simp) e
theorem r_i_SetsOf_1 (g : Good X) {a0 a1 a2 a3 a4 a5 : AV} {h : Hp} {Q : AV → Hp → Prop} (e : Ends (pk X).T (evC (pk X).T (Pc (pk X)) cc_i_SetsOf_1 [(0, a0), (1, a1), (2, a2), (3, a3), (4, a4), (5, a5), (8, .lit undef), (12, .lit undef), (21, .lit undef)] h) [] Q) : ∃ v h1, Pc (pk X) 116 [a0, a1, a2, a3, a4, a5] h = some (v, h1) ∧ Q v h1 :=
  run_own g (by decide) rfl f_i_SetsOf_1 c_i_SetsOf_1 (nt := 33) rfl (kept := [0, 1, 2, 3, 4, 5, 8, 12, 21]) rfl (by simp) e
theorem r_sl_Clone_Sint_int (g : Good X) {a0 : AV} {h : Hp} {Q : AV → Hp → Prop} (e : Ends (pk X).T (evC (pk X).T (Pc (pk X)) cc_sl_Clone_Sint_int [(0, a0), (2, .lit undef), (4, .lit undef)] h) [.tmp 2] Q) : ∃ v h1, Pc (pk X) 117 [a0] h = some (v, h1) ∧ Q v h1 :=
  run_own g (by decide) rfl f_sl_Clone_Sint_int c_sl_Clone_Sint_int (nt := 8) rfl (kept := [0, 2, 4]) rfl (by simp) e
theorem r_sl_ContainsFunc_Sint_int (g : Good X) {a0 a1 : AV} {h : Hp} {v : AV} (e : Ends (pk X).T (evC (pk X).T (Pc (pk X)) cc_sl_ContainsFunc_Sint_int [(0, a0), (1, a1), (4, .lit undef)] { h with lo := h.next }) [.tmp 4] (fun r h1 => frz h1 h.next 40 r = some v)) : Pc (pk X) 118 [a0, a1] h = some (v, h) :=
  run_fz g (by decide) rfl f_sl_ContainsFunc_Sint_int c_sl_ContainsFunc_Sint_int (nt := 9) rfl (kept := [0, 1, 4]) rfl (by simp) e
theorem r_i_FailsWith_1 (g : Good X) {a0 a1 : AV} {h : Hp} {v : AV} (e : Ends (pk X).T (evC (pk X).T (Pc (pk X)) cc_i_FailsWith_1 [(0, a0), (1, a1), (3, .lit undef)] { h with lo := h.next }) [.tmp 3] (fun r h1 => frz h1 h.next 40 r = some v)) : Pc (pk X) 119 [a0, a1] h = some (v, h) :=
  run_fz g (by decide) rfl f_i_FailsWith_1 c_i_FailsWith_1 (nt := 15) rfl (kept := [0, 1, 3]) rfl (by simp) e
theorem r_s_EndOf (g : Good X) {a0 a1 a2 : AV} {h : Hp} {v : AV} (e : Ends (pk X).T (evC (pk X).T (Pc (pk X)) cc_s_EndOf [(0, a0), (1, a1), (2, a2), (3, .lit undef), (6, .lit undef), (7, .lit undef), (8, .lit undef), (9, .lit undef), (14, .lit undef), (26, .lit undef), (35, .lit undef), (36, .lit undef), (42, .lit undef)] { h with lo := h.next }) [.tmp 6] (fun r h1 => frz h1 h.next 40 r = some v)) : Pc (pk X) 120 [a0, a1, a2] h = some (v, h) :=
  run_fz g (by decide) rfl f_s_EndOf c_s_EndOf (nt := 49) rfl (kept := [0, 1, 2, 3, 6, 7, 8, 9, 14, 26, 35, 36, 42]) rfl (by simp) e
theorem r_sl_IndexFunc_Si_Link_i_Link (g : Good X) {a0 a1 : AV} {h : Hp} {v : AV} (e : Ends (pk X).T (evC (pk X).T (Pc (pk X)) cc_sl_IndexFunc_Si_Link_i_Link [(0, a0), (1, a1), (4, .lit undef), (5, .lit undef), (7, .lit undef), (8, .lit undef), (9, .lit undef), (16, .lit undef)] { h with lo := h.next }) [.tmp 4] (fun r h1 => frz h1 h.next 40 r = some v)) : Pc (pk X) 121 [a0, a1] h = some (v, h) :=
  run_fz g (by decide) rfl f_sl_IndexFunc_Si_Link_i_Link c_sl_IndexFunc_Si_Link_i_Link (nt := 19) rfl (kept := [0, 1, 4, 5, 7, 8, 9, 16]) rfl (by simp) e
theorem r_i_LinkOf_1 (g : Good X) {a0 a1 a2 : AV} {h : Hp} {v : AV} (e : Ends (pk X).T (evC (pk X).T (Pc (pk X)) cc_i_LinkOf_1 [(0, a0), (1, a1), (2, a2), (3, .lit undef), (4, .lit undef)] { h with lo := h.next }) [.tmp 4] (fun r h1 => frz h1 h.next 40 r = some v)) : Pc (pk X) 122 [a0, a1, a2] h = some (v, h) :=
  run_fz g (by decide) rfl f_i_LinkOf_1 c_i_LinkOf_1 (nt := 17) rfl (kept := [0, 1, 2, 3, 4]) rfl (by simp) e
theorem r_sl_IndexFunc_Si_Probe_i_Probe (g : Good X) {a0 a1 : AV} {h : Hp} {v : AV} (e : Ends (pk X).T (evC (pk X).T (Pc (pk X)) cc_sl_IndexFunc_Si_Probe_i_Probe [(0, a0), (1, a1), (4, .lit undef), (5, .lit undef), (7, .lit undef), (8, .lit undef), (9, .lit undef), (16, .lit undef)] { h with lo := h.next }) [.tmp 4] (fun r h1 => frz h1 h.next 40 r = some v)) : Pc (pk X) 125 [a0, a1] h = some (v, h) :=
  run_fz g (by decide) rfl f_sl_IndexFunc_Si_Probe_i_Probe c_sl_IndexFunc_Si_Probe_i_Probe (nt := 19) rfl (kept := [0, 1, 4, 5, 7, 8, 9, 16]) rfl (by simp) e
theorem r_sl_Contains_Sint_int (g : Good X) {a0 a1 : AV} {h : Hp} {v : AV} (e : Ends (pk X).T (evC (pk X).T (Pc (pk X)) cc_sl_Contains_Sint_int [(0, a0), (1, a1), (4, .lit undef)] { h with lo := h.next }) [.tmp 4] (fun r h1 => frz h1 h.next 40 r = some v)) : Pc (pk X) 126 [a0, a1] h = some (v, h) :=
  run_fz g (by decide) rfl f_sl_Contains_Sint_int c_sl_Contains_Sint_int (nt := 9) rfl (kept := [0, 1, 4]) rfl (by simp) e
theorem r_i_EndOf (g : Good X) {a0 a1 a2 : AV} {h : Hp} {v : AV} (e : Ends (pk X).T (evC (pk X).T (Pc (pk X)) cc_i_EndOf [(0, a0), (1, a1), (2, a2), (3, .lit undef), (6, .lit undef), (8, .lit undef), (9, .lit undef), (10, .lit undef), (11, .lit undef), (12, .lit undef), (13, .lit undef), (21, .lit undef), (36, .lit undef)] { h with lo := h.next }) [.tmp 6] (fun r h1 => frz h1 h.next 40 r = some v)) : Pc (pk X) 127 [a0, a1, a2] h = some (v, h) :=
  run_fz g (by decide) rfl f_i_EndOf c_i_EndOf (nt := 42) rfl (kept := [0, 1, 2, 3, 6, 8, 9, 10, 11, 12, 13, 21, 36]) rfl (by simp) e
theorem r_i_LatestOf (g : Good X) {a0 a1 a2 : AV} {h : Hp} {v : AV} (e : Ends (pk X).T (evC (pk X).T (Pc (pk X)) cc_i_LatestOf [(0, a0), (1, a1), (2, a2), (6, .lit undef), (7, .lit undef), (12, .lit undef), (30, .lit undef)] { h with lo := h.next }) [.tmp 6] (fun r h1 => frz h1 h.next 40 r = some v)) : Pc (pk X) 128 [a0, a1, a2] h = some (v, h) :=
  run_fz g (by decide) rfl f_i_LatestOf c_i_LatestOf (nt := 32) rfl (kept := [0, 1, 2, 6, 7, 12, 30]) rfl (by simp) e
theorem r_sl_IndexFunc_SSint_Sint (g : Good X) {a0 a1 : AV} {h : Hp} {v : AV} (e : Ends (pk X).T (evC (pk X).T (Pc (pk X)) cc_sl_IndexFunc_SSint_Sint [(0, a0), (1, a1), (4, .lit undef), (5, .lit undef), (7, .lit undef), (8, .lit undef), (9, .lit undef), (16, .lit undef)] { h with lo := h.next }) [.tmp 4] (fun r h1 => frz h1 h.next 40 r = some v)) : Pc (pk X) 129 [a0, a1] h = some (v, h) :=
  run_fz g (by decide) rfl f_sl_IndexFunc_SSint_Sint c_sl_IndexFunc_SSint_Sint (nt := 19) rfl (kept := [0, 1, 4, 5, 7, 8, 9, 16]) rfl (by simp) e
theorem r_sl_IndexFunc_Sint_int (g : Good X) {a0 a1 : AV} {h : Hp} {v : AV} (e : Ends (pk X).T (evC (pk X).T (Pc (pk X)) cc_sl_IndexFunc_Sint_int [(0, a0), (1, a1), (4, .lit undef), (5, .lit undef), (7, .lit undef), (8, .lit undef), (9, .lit undef), (16, .lit undef)] { h with lo := h.next }) [.tmp 4] (fun r h1 => frz h1 h.next 40 r = some v)) : Pc (pk X) 130 [a0, a1] h = some (v, h) :=
  run_fz g (by decide) rfl f_sl_IndexFunc_Sint_int c_sl_IndexFunc_Sint_int (nt := 19) rfl (kept := [0, 1, 4, 5, 7, 8, 9, 16]) rfl (by simp) e
theorem r_sl_Index_Sint_int (g : Good X) {a0 a1 : AV} {h : Hp} {v : AV} (e : Ends (pk X).T (evC (pk X).T (Pc (pk X)) cc_sl_Index_Sint_int [(0, a0), (1, a1), (4, .lit undef), (5, .lit undef), (7, .lit undef), (8, .lit undef), (9, .lit undef), (16, .lit undef)] { h with lo := h.next }) [.tmp 4] (fun r h1 => frz h1 h.next 40 r = some v)) : Pc (pk X) 133 [a0, a1] h = some (v, h) :=
  run_fz g (by decide) rfl f_sl_Index_Sint_int c_sl_Index_Sint_int (nt := 19) rfl (kept := [0, 1, 4, 5, 7, 8, 9, 16]) rfl (by simp) e
theorem r_i_Link_across (g : Good X) {a0 a1 : AV} {h : Hp} {v : AV} (e : Ends (pk X).T (evC (pk X).T (Pc (pk X)) cc_i_Link_across [(0, a0), (1, a1), (2, .lit undef), (4, .lit undef), (5, .lit undef), (6, .lit undef), (12, .lit undef)] { h with lo := h.next }) [.tmp 4] (fun r h1 => frz h1 h.next 40 r = some v)) : Pc (pk X) 134 [a0, a1] h = some (v, h) :=
  run_fz g (by decide) rfl f_i_Link_across c_i_Link_across (nt := 18) rfl (kept := [0, 1, 2, 4, 5, 6, 12]) rfl (by simp) e
end Go.Proofs.Ev
end
section
/- The functions: small ones. -/
set_option linter.unusedVariables false
set_option linter.unusedSimpArgs false
namespace Go.Proofs.Ev
open Go Go.RowKit
variable {X : FuncId → Option (List AV → Hp → Option (AV × Hp))}

theorem s_l1In (g : Good X) (x a b : Int) (h : Hp) : Pc (pk X) 59 [I x, I a, I b] h = some (Bo (decide (a ≤ x) && decide (x ≤ b)), h) := by
  refine r_s_l1In g ?_
  unfold cc_s_l1In
  by_cases h1 : a ≤ x <;> simp [h1]

theorem i_InRange (g : Good X) (x a b : Int) (h : Hp) : Pc (pk X) 79 [I x, I a, I b] h = some (Bo (decide (a ≤ x) && decide (x ≤ b)), h) := by
  refine r_i_InRange g ?_
  unfold cc_i_InRange
  by_cases h1 : a ≤ x <;> simp [h1]

theorem i_at (g : Good X) (x n : Int) (h : Hp) : Pc (pk X) 102 [I x, I n] h = some (Bo (decide (0 ≤ x) && decide (x < n)), h) := by
  refine r_i_at g ?_
  unfold cc_i_at
  by_cases h1 : 0 ≤ x <;> simp [h1]

/-! Rows of numbers. -/
def SVI (v : AV) (l : List Int) : Prop := SV v (l.map fun n => [I n])
theorem SVI.get {v : AV} {l : List Int} (s : SVI v l) (h : Hp) : h.get v = some (l.map fun n => [I n]) := SV.get s h
theorem SVI.len {v : AV} {l : List Int} (s : SVI v l) (h : Hp) : lenA (pk X).T h 25 v = some (I l.length) := by
  have := SV.get s h
  rcases s with ⟨rfl, e⟩ | ⟨x, rfl⟩ <;> simp_all [lenA, slT]
theorem SVI.idx {v : AV} {l : List Int} (s : SVI v l) (h : Hp) {k : Nat} (hk : k < l.length) : idxAddr (pk X).T h 25 v (I k) = some (.elem v k 0) := by
  simp [idxAddr, SV.get s h, hk]
theorem SVI.idxi {v : AV} {l : List Int} (s : SVI v l) {k : Int} (h0 : 0 ≤ k) (hk : k < l.length) (h : Hp) : idxAddr (pk X).T h 25 v (I k) = some (.elem v k.toNat 0) := by
  have : k.toNat < l.length := by omega
  simp [idxAddr, SV.get s h, h0, this]
theorem wadd {x y : Int} (h1 : -9223372036854775808 ≤ x + y) (h2 : x + y ≤ 9223372036854775807) : IntKind.i64.wrap (x + y) = x + y := wrap64 h1 h2
theorem wsub {x y : Int} (h1 : -9223372036854775808 ≤ x - y) (h2 : x - y ≤ 9223372036854775807) : IntKind.i64.wrap (x - y) = x - y := wrap64 h1 h2

def failsWith (row links : List Int) : Bool := links.any fun k => decide (0 ≤ k) && decide (k ≤ (row.length : Int) - 1) && row.getD k.toNat 0 == 1

theorem s_FailsWith (g : Good X) {vr vl : AV} {row links : List Int} (hr : SVI vr row) (hl : SVI vl links) (h : Hp) (bl : links.length ≤ 2 ^ 40) (br : row.length ≤ 2 ^ 40) :
    Pc (pk X) 92 [vr, vl] h = some (Bo (failsWith row links), h) := by
  refine r_s_FailsWith g ?_
  unfold cc_s_FailsWith
  simp
  obtain ⟨e, s', h', he, hq⟩ := for_rule (b := evC (pk X).T (Pc (pk X)) L0_s_FailsWith) links.length
    (fun i s h1 => i ≤ links.length ∧ h1 = { h with lo := h.next } ∧ (∃ a b, s = [(0, vr), (1, vl), (4, Bo false), (5, I i), (9, a), (29, b)]) ∧ failsWith row (links.drop i) = failsWith row links)
    (fun e s h1 => h1 = { h with lo := h.next } ∧ ∃ i a b, (e = .ret ∧ s = [(0, vr), (1, vl), (4, Bo true), (5, i), (9, a), (29, b)] ∧ failsWith row links = true) ∨ (e = .exit 0 ∧ s = [(0, vr), (1, vl), (4, Bo false), (5, i), (9, a), (29, b)] ∧ failsWith row links = false))
    (s := [(0, vr), (1, vl), (4, Bo false), (5, I 0), (9, .lit undef), (29, .lit undef)]) (h := { h with lo := h.next }) (by simp) (fun i s h1 hI => hI.1) (by
      rintro i s h1 ⟨hi, rfl, ⟨a, b, rfl⟩, hf⟩
      unfold L0_s_FailsWith
      by_cases hlt : i < links.length
      · have hw := wsub (x := row.length) (y := 1) (by omega) (by omega)
        have hw2 := wadd (x := i) (y := 1) (by omega) (by omega)
        rw [List.drop_eq_getElem_cons hlt] at hf
        have hs : failsWith row (links[i] :: links.drop (i + 1)) = ((decide (0 ≤ links[i]) && decide (links[i] ≤ (row.length : Int) - 1) && row.getD links[i].toNat 0 == 1) || failsWith row (links.drop (i + 1))) := rfl
        rw [hs] at hf
        cases hc : (decide (0 ≤ links[i]) && decide (links[i] ≤ (row.length : Int) - 1))
        · simp [hc] at hf
          simp [hl.len, hr.len, hl.idx, hlt, hl.get, s_l1In g, hw, hw2, hc, hf]
          omega
        · have hc' := hc
          simp only [Bool.and_eq_true, decide_eq_true_eq] at hc'
          have hk : links[i].toNat < row.length := by omega
          cases h1 : (row[links[i].toNat] == 1)
          · simp only [hc, hk, h1, List.getD_eq_getElem?_getD, List.getElem?_eq_getElem, Option.getD_some, Bool.and_false, Bool.false_or, Bool.true_and] at hf
            simp [hl.len, hr.len, hl.idx, hlt, hl.get, s_l1In g, hw, hw2, hc, hr.idxi hc'.1 (by omega), hr.get, hk, h1, hf]
            omega
          · simp [hc, hk, h1] at hf
            simp [hl.len, hr.len, hl.idx, hlt, hl.get, s_l1In g, hw, hw2, hc, hr.idxi hc'.1 (by omega), hr.get, hk, h1, hf]
      · have : i = links.length := by omega
        subst this
        rw [List.drop_length] at hf
        simp [hl.len, hr.len, hl.idx, ← hf]
        rfl)
  rw [he]
  obtain ⟨rfl, i, a, b, ⟨rfl, rfl, hf⟩ | ⟨rfl, rfl, hf⟩⟩ := hq <;> simp [hf]
end Go.Proofs.Ev
end
section
/- The functions: rows of numbers. -/
set_option linter.unusedVariables false
set_option linter.unusedSimpArgs false
namespace Go.Proofs.Ev
open Go Go.RowKit
variable {X : FuncId → Option (List AV → Hp → Option (AV × Hp))}

theorem SV.cells {v : AV} {es : List (List AV)} (s : SV v es) : AV.cells v = [v] := by rcases s with ⟨rfl, rfl⟩ | ⟨x, rfl⟩ <;> rfl
theorem SV.one {v : AV} {es : List (List AV)} (s : SV v es) : AV.one v = true := by rcases s with ⟨rfl, rfl⟩ | ⟨x, rfl⟩ <;> rfl
theorem SVI.cells {v : AV} {l : List Int} (s : SVI v l) : AV.cells v = [v] := SV.cells s
theorem SVI.one {v : AV} {l : List Int} (s : SVI v l) : AV.one v = true := SV.one s

theorem i_allIn (g : Good X) {v : AV} {l : List Int} (hl : SVI v l) (lo hi : Int) (h : Hp) (bl : l.length ≤ 2 ^ 40) :
    Pc (pk X) 74 [v, I lo, I hi] h = some (Bo (l.all fun x => decide (lo ≤ x) && decide (x ≤ hi)), h) := by
  refine r_i_allIn g ?_
  unfold cc_i_allIn
  simp [hl.len]
  obtain ⟨e, s', h', he, hq⟩ := for_rule (b := evC (pk X).T (Pc (pk X)) L0_i_allIn) l.length
    (fun i s h1 => i ≤ l.length ∧ h1 = { h with lo := h.next } ∧ (∃ a b c, s = [(0, v), (1, I lo), (2, I hi), (6, Bo false), (8, a), (9, v), (10, I l.length), (11, I i), (12, b), (19, c)]) ∧ ((l.drop i).all fun x => decide (lo ≤ x) && decide (x ≤ hi)) = (l.all fun x => decide (lo ≤ x) && decide (x ≤ hi)))
    (fun e s h1 => h1 = { h with lo := h.next } ∧ ∃ i a b c, s = [(0, v), (1, I lo), (2, I hi), (6, Bo false), (8, a), (9, v), (10, I l.length), (11, i), (12, b), (19, c)] ∧ ((e = .ret ∧ (l.all fun x => decide (lo ≤ x) && decide (x ≤ hi)) = false) ∨ (e = .exit 0 ∧ (l.all fun x => decide (lo ≤ x) && decide (x ≤ hi)) = true)))
    (s := [(0, v), (1, I lo), (2, I hi), (6, Bo false), (8, .lit undef), (9, v), (10, I l.length), (11, I 0), (12, .lit undef), (19, .lit undef)]) (h := { h with lo := h.next }) (by simp) (fun i s h1 hI => hI.1) (by
      rintro i s h1 ⟨hi', rfl, ⟨a, b, c, rfl⟩, hf⟩
      unfold L0_i_allIn
      by_cases hlt : i < l.length
      · have hw2 := wadd (x := i) (y := 1) (by omega) (by omega)
        rw [List.drop_eq_getElem_cons hlt, List.all_cons] at hf
        cases hc : (decide (lo ≤ l[i]) && decide (l[i] ≤ hi)) <;> rw [hc] at hf
        · simp only [Bool.false_and] at hf
          simp [hl.idx, hlt, hl.get, i_InRange g, hw2, hc, ← hf]
        · simp only [Bool.true_and] at hf
          simp [hl.idx, hlt, hl.get, i_InRange g, hw2, hc, hf]
          omega
      · have : i = l.length := by omega
        subst this
        rw [List.drop_length] at hf
        simp [← hf])
  rw [he]
  obtain ⟨rfl, i, a, b, c, rfl, ⟨rfl, hf⟩ | ⟨rfl, hf⟩⟩ := hq <;> simp [hf]

/-! Where a function says yes for the first time. -/
def firstI (p : Nat → Bool) (n : Nat) : Int := match (List.range n).find? p with | some k => k | none => -1

theorem sl_IndexFunc_int (g : Good X) {v : AV} {l : List Int} (hl : SVI v l) (bl : l.length ≤ 2 ^ 40) (f : FuncId) (xs ys : List AV) (p : Int → Bool) (h : Hp)
    (hp : ∀ x ∈ l, Pc (pk X) f (xs ++ [I x] ++ ys) { h with lo := h.next } = some (Bo (p x), { h with lo := h.next })) :
    ∃ r : Int, Pc (pk X) 130 [v, .fn f xs ys] h = some (I r, h) ∧ decide (0 ≤ r) = l.any p := by
  suffices H : ∃ r : Int, Ends (pk X).T (evC (pk X).T (Pc (pk X)) cc_sl_IndexFunc_Sint_int [(0, v), (1, .fn f xs ys), (4, .lit undef), (5, .lit undef), (7, .lit undef), (8, .lit undef), (9, .lit undef), (16, .lit undef)] { h with lo := h.next }) [.tmp 4] (fun r' h1 => frz h1 h.next 40 r' = some (I r)) ∧ decide (0 ≤ r) = l.any p by
    obtain ⟨r, h1, h2⟩ := H
    exact ⟨r, r_sl_IndexFunc_Sint_int g h1, h2⟩
  unfold cc_sl_IndexFunc_Sint_int
  simp [hl.len]
  obtain ⟨e, s', h', he, hq⟩ := for_rule (b := evC (pk X).T (Pc (pk X)) L0_sl_IndexFunc_Sint_int) l.length
    (fun i s h1 => i ≤ l.length ∧ h1 = { h with lo := h.next } ∧ (∃ a b c, s = [(0, v), (1, .fn f xs ys), (4, I 0), (5, a), (7, I l.length), (8, I i), (9, b), (16, c)]) ∧ (l.drop i).any p = l.any p)
    (fun e s h1 => h1 = { h with lo := h.next } ∧ ∃ a b c d k, s = [(0, v), (1, .fn f xs ys), (4, I k), (5, a), (7, I l.length), (8, d), (9, b), (16, c)] ∧ ((e = .ret ∧ 0 ≤ k ∧ l.any p = true) ∨ (e = .exit 0 ∧ l.any p = false)))
    (s := [(0, v), (1, .fn f xs ys), (4, I 0), (5, .lit undef), (7, I l.length), (8, I 0), (9, .lit undef), (16, .lit undef)]) (h := { h with lo := h.next }) (by simp) (fun i s h1 hI => hI.1) (by
      rintro i s h1 ⟨hi', rfl, ⟨a, b, c, rfl⟩, hf⟩
      unfold L0_sl_IndexFunc_Sint_int
      by_cases hlt : i < l.length
      · have hw2 := wadd (x := i) (y := 1) (by omega) (by omega)
        have hpi := hp l[i] (List.getElem_mem hlt)
        rw [List.drop_eq_getElem_cons hlt, List.any_cons] at hf
        cases hc : p l[i] <;> rw [hc] at hf hpi <;> simp only [List.append_assoc, List.cons_append, List.nil_append] at hpi
        · simp only [Bool.false_or] at hf
          simp [hl.idx, hlt, hl.get, hw2, hpi, hf]
          omega
        · simp only [Bool.true_or] at hf
          simp [hl.idx, hlt, hl.get, hw2, hpi, ← hf]
          exact ⟨_, _, _, _, _, ⟨rfl, rfl, rfl, rfl, rfl⟩, by omega⟩
      · have : i = l.length := by omega
        subst this
        rw [List.drop_length] at hf
        simp [← hf])
  rw [he]
  obtain ⟨rfl, a, b, c, d, k, rfl, ⟨rfl, hk, hf⟩ | ⟨rfl, hf⟩⟩ := hq
  · exact ⟨k, by simp, by simp [hk, hf]⟩
  · exact ⟨-1, by simp, by simp [hf]⟩

theorem sl_ContainsFunc_int (g : Good X) {v : AV} {l : List Int} (hl : SVI v l) (bl : l.length ≤ 2 ^ 40) (f : FuncId) (xs ys : List AV) (p : Int → Bool) (h : Hp)
    (hp : ∀ h1 : Hp, h1.rows = h.rows → h1.next = h.next → ∀ x ∈ l, Pc (pk X) f (xs ++ [I x] ++ ys) h1 = some (Bo (p x), h1)) :
    Pc (pk X) 118 [v, .fn f xs ys] h = some (Bo (l.any p), h) := by
  refine r_sl_ContainsFunc_Sint_int g ?_
  obtain ⟨r, h1, h2⟩ := sl_IndexFunc_int g hl bl f xs ys p { h with lo := h.next } (fun x hx => hp { rows := h.rows, next := h.next, lo := h.next } rfl rfl x hx)
  unfold cc_sl_ContainsFunc_Sint_int
  simp [h1, h2]

theorem i_FailsWith_1 (g : Good X) {vr : AV} {row : List Int} (hr : SVI vr row) (id : Nat) (k : Int) (h : Hp) (br : row.length ≤ 2 ^ 40) (hid : h.rows id = some ⟨25, 1, [[vr]]⟩) :
    Pc (pk X) 119 [I k, .elem (.own id) 0 0] h = some (Bo (decide (0 ≤ k) && decide (k ≤ (row.length : Int) - 1) && row.getD k.toNat 0 == 1), h) := by
  refine r_i_FailsWith_1 g ?_
  unfold cc_i_FailsWith_1
  have e : decide (k ≤ (row.length : Int) - 1) = decide (k < row.length) := by simp; omega
  rw [e]
  cases hc : (decide (0 ≤ k) && decide (k < (row.length : Int)))
  · simp [hid, hr.len, i_at g, hc]
  · have hc' := hc
    simp only [Bool.and_eq_true, decide_eq_true_eq] at hc'
    have hk : k.toNat < row.length := by omega
    simp [hid, hr.len, i_at g, hc, hr.idxi hc'.1 hc'.2, hr.get, hk]

theorem i_FailsWith (g : Good X) {vr vl : AV} {row links : List Int} (hr : SVI vr row) (hl : SVI vl links) (h : Hp) (bl : links.length ≤ 2 ^ 40) (br : row.length ≤ 2 ^ 40) :
    Pc (pk X) 94 [vr, vl] h = some (Bo (failsWith row links), h) := by
  refine r_i_FailsWith g ?_
  unfold cc_i_FailsWith
  have := sl_ContainsFunc_int g hl bl 119 [] [.elem (.own h.next) 0 0] (fun k => decide (0 ≤ k) && decide (k ≤ (row.length : Int) - 1) && row.getD k.toNat 0 == 1)
    (addRow { h with lo := h.next } 25 1 [[vr]]) (fun h1 e1 e2 x _ => i_FailsWith_1 g hr h.next x h1 br (by rw [e1]; simp [addRow, updR]))
  simp [box, hr.cells, hr.one, this, failsWith]
end Go.Proofs.Ev
end
section
/- The functions: where a function says yes for the first time. Printed by gw.py. -/
set_option linter.unusedVariables false
set_option linter.unusedSimpArgs false
namespace Go.Proofs.Ev
open Go Go.RowKit
variable {X : FuncId → Option (List AV → Hp → Option (AV × Hp))}

/-- The place, from k on, where p says yes for the first time; -1 where it never does. -/
def idxF {α : Type} (p : α → Bool) (k : Int) : List α → Int
  | [] => -1
  | x :: l => if p x = true then k else idxF p (k + 1) l
theorem idxF_any {α : Type} (p : α → Bool) : ∀ (l : List α) (k : Int), 0 ≤ k → decide (0 ≤ idxF p k l) = l.any p
  | [], k, _ => by simp [idxF]
  | x :: l, k, hk => by
    simp only [idxF, List.any_cons]
    by_cases h : p x = true
    · simp [h, hk]
    · simp only [h, if_false, Bool.false_or]
      exact idxF_any p l (k + 1) (by omega)
theorem SV.len {v : AV} {es : List (List AV)} (s : SV v es) (t : TypeId) (h : Hp) (ht : slT (pk X).T t = true) : lenA (pk X).T h t v = some (I es.length) := by
  rcases s with ⟨rfl, rfl⟩ | ⟨x, rfl⟩ <;> simp [lenA, ht]
theorem SV.at_ {v : AV} {es : List (List AV)} (s : SV v es) (t : TypeId) {e : TypeId} {te : TE} (ht : ((pk X).T t).bind (·.sl) = some e) (he : (pk X).T e = some te) {k : Nat} (hk : k < es.length) (hu : es[k].length = te.sz) (h : Hp) :
    idxAddr (pk X).T h t v (I k) = some (.elem v k 0) := by
  simp [idxAddr, ht, he, SV.get s h, hk, hu]

theorem sl_IndexFunc_Si_Link_i_Link (g : Good X) {v : AV} {es : List (List AV)} (hs : SV v es) (hu : ∀ c ∈ es, c.length = 2) (bl : es.length ≤ 2 ^ 40) (f : FuncId) (xs ys : List AV) (p : List AV → Bool) (h : Hp)
    (hp : ∀ x ∈ es, Pc (pk X) f (xs ++ [AV.agg x] ++ ys) { h with lo := h.next } = some (Bo (p x), { h with lo := h.next })) :
    Pc (pk X) 121 [v, .fn f xs ys] h = some (I (idxF p 0 es), h) := by
  refine r_sl_IndexFunc_Si_Link_i_Link g ?_
  have hlen : ∀ h : Hp, lenA (pk X).T h 34 v = some (I es.length) := fun h => hs.len _ h (by simp [slT])
  unfold cc_sl_IndexFunc_Si_Link_i_Link
  simp [hlen]
  obtain ⟨e, s', h', he, hq⟩ := for_rule (b := evC (pk X).T (Pc (pk X)) L0_sl_IndexFunc_Si_Link_i_Link) es.length
    (fun i s h1 => i ≤ es.length ∧ h1 = { h with lo := h.next } ∧ (∃ a b c, s = [(0, v), (1, .fn f xs ys), (4, I 0), (5, a), (7, I es.length), (8, I i), (9, b), (16, c)]) ∧ idxF p i (es.drop i) = idxF p 0 es)
    (fun e s h1 => h1 = { h with lo := h.next } ∧ ∃ a b c d k, s = [(0, v), (1, .fn f xs ys), (4, I k), (5, a), (7, I es.length), (8, d), (9, b), (16, c)] ∧ ((e = .ret ∧ idxF p 0 es = k) ∨ (e = .exit 0 ∧ idxF p 0 es = -1)))
    (s := [(0, v), (1, .fn f xs ys), (4, I 0), (5, .lit undef), (7, I es.length), (8, I 0), (9, .lit undef), (16, .lit undef)]) (h := { h with lo := h.next }) (by simp) (fun i s h1 hI => hI.1) (by
      rintro i s h1 ⟨hi', rfl, ⟨a, b, c, rfl⟩, hf⟩
      unfold L0_sl_IndexFunc_Si_Link_i_Link
      by_cases hlt : i < es.length
      · have hw2 := wadd (x := i) (y := 1) (by omega) (by omega)
        have hpi := hp es[i] (List.getElem_mem hlt)
        have hul : es[i].length = 2 := hu es[i] (List.getElem_mem hlt)
        have htk : List.take 2 es[i] = es[i] := List.take_of_length_le (by omega)
        have hat := fun h => hs.at_ (X := X) 34 (by simp) t_109 hlt hul h
        have hel : AV.agg es[i] = AV.agg es[i] := by rfl
        rw [← hel] at hpi
        rw [List.drop_eq_getElem_cons hlt] at hf
        simp only [idxF] at hf
        cases hc : p es[i] <;> rw [hc] at hf hpi <;> simp only [List.append_assoc, List.cons_append, List.nil_append] at hpi
        · simp only [Bool.false_eq_true, if_false] at hf
          simp [hat, hlt, hs.get, hw2, hpi, hf, hul, htk]
          omega
        · simp only [if_true] at hf
          simp [hat, hlt, hs.get, hw2, hpi, ← hf, hul, htk]
      · have : i = es.length := by omega
        subst this
        rw [List.drop_length] at hf
        simp [← hf, idxF])
  rw [he]
  obtain ⟨rfl, a, b, c, d, k, rfl, ⟨rfl, hk⟩ | ⟨rfl, hk⟩⟩ := hq <;> simp [hk]

theorem sl_IndexFunc_Si_Probe_i_Probe (g : Good X) {v : AV} {es : List (List AV)} (hs : SV v es) (hu : ∀ c ∈ es, c.length = 3) (bl : es.length ≤ 2 ^ 40) (f : FuncId) (xs ys : List AV) (p : List AV → Bool) (h : Hp)
    (hp : ∀ x ∈ es, Pc (pk X) f (xs ++ [AV.agg x] ++ ys) { h with lo := h.next } = some (Bo (p x), { h with lo := h.next })) :
    Pc (pk X) 125 [v, .fn f xs ys] h = some (I (idxF p 0 es), h) := by
  refine r_sl_IndexFunc_Si_Probe_i_Probe g ?_
  have hlen : ∀ h : Hp, lenA (pk X).T h 37 v = some (I es.length) := fun h => hs.len _ h (by simp [slT])
  unfold cc_sl_IndexFunc_Si_Probe_i_Probe
  simp [hlen]
  obtain ⟨e, s', h', he, hq⟩ := for_rule (b := evC (pk X).T (Pc (pk X)) L0_sl_IndexFunc_Si_Probe_i_Probe) es.length
    (fun i s h1 => i ≤ es.length ∧ h1 = { h with lo := h.next } ∧ (∃ a b c, s = [(0, v), (1, .fn f xs ys), (4, I 0), (5, a), (7, I es.length), (8, I i), (9, b), (16, c)]) ∧ idxF p i (es.drop i) = idxF p 0 es)
    (fun e s h1 => h1 = { h with lo := h.next } ∧ ∃ a b c d k, s = [(0, v), (1, .fn f xs ys), (4, I k), (5, a), (7, I es.length), (8, d), (9, b), (16, c)] ∧ ((e = .ret ∧ idxF p 0 es = k) ∨ (e = .exit 0 ∧ idxF p 0 es = -1)))
    (s := [(0, v), (1, .fn f xs ys), (4, I 0), (5, .lit undef), (7, I es.length), (8, I 0), (9, .lit undef), (16, .lit undef)]) (h := { h with lo := h.next }) (by simp) (fun i s h1 hI => hI.1) (by
      rintro i s h1 ⟨hi', rfl, ⟨a, b, c, rfl⟩, hf⟩
      unfold L0_sl_IndexFunc_Si_Probe_i_Probe
      by_cases hlt : i < es.length
      · have hw2 := wadd (x := i) (y := 1) (by omega) (by omega)
        have hpi := hp es[i] (List.getElem_mem hlt)
        have hul : es[i].length = 3 := hu es[i] (List.getElem_mem hlt)
        have htk : List.take 3 es[i] = es[i] := List.take_of_length_le (by omega)
        have hat := fun h => hs.at_ (X := X) 37 (by simp) t_91 hlt hul h
        have hel : AV.agg es[i] = AV.agg es[i] := by rfl
        rw [← hel] at hpi
        rw [List.drop_eq_getElem_cons hlt] at hf
        simp only [idxF] at hf
        cases hc : p es[i] <;> rw [hc] at hf hpi <;> simp only [List.append_assoc, List.cons_append, List.nil_append] at hpi
        · simp only [Bool.false_eq_true, if_false] at hf
          simp [hat, hlt, hs.get, hw2, hpi, hf, hul, htk]
          omega
        · simp only [if_true] at hf
          simp [hat, hlt, hs.get, hw2, hpi, ← hf, hul, htk]
      · have : i = es.length := by omega
        subst this
        rw [List.drop_length] at hf
        simp [← hf, idxF])
  rw [he]
  obtain ⟨rfl, a, b, c, d, k, rfl, ⟨rfl, hk⟩ | ⟨rfl, hk⟩⟩ := hq <;> simp [hk]
end Go.Proofs.Ev
end
section
/- The functions: networks. -/
set_option linter.unusedVariables false
set_option linter.unusedSimpArgs false
namespace Go.Proofs.Ev
open Go Go.RowKit
variable {X : FuncId → Option (List AV → Hp → Option (AV × Hp))}
attribute [simp] cellsEq cellEq

/-! Links, as pairs. -/
abbrev lk (p : Int × Int) : List AV := [I p.1, I p.2]
def isLk (a b : Int) (p : Int × Int) : Bool := (p.1 == a && p.2 == b) || (p.1 == b && p.2 == a)
def linkOf (links : List (Int × Int)) (a b : Int) : Int := idxF (isLk a b) 0 links
def cellsI : List AV → List Int
  | [] => []
  | .lit (.int _ n) :: l => n :: cellsI l
  | _ :: l => 0 :: cellsI l

theorem idxF_map {α β : Type} (f : α → β) (p : β → Bool) : ∀ (l : List α) (k : Int), idxF p k (l.map f) = idxF (fun x => p (f x)) k l
  | [], _ => rfl
  | x :: l, k => by simp only [List.map_cons, idxF, idxF_map f p l]

theorem lk_uni (links : List (Int × Int)) : ∀ c ∈ links.map lk, c.length = 2 := by
  intro c hc
  obtain ⟨p, _, rfl⟩ := List.mem_map.1 hc
  rfl

theorem i_LinkOf_1 (g : Good X) (p : Int × Int) (a b : Int) (i j : Nat) (h : Hp) (hi : h.rows i = some ⟨3, 1, [[I a]]⟩) (hj : h.rows j = some ⟨3, 1, [[I b]]⟩) (hil : i < h.next) (hjl : j < h.next) :
    Pc (pk X) 122 [.agg (lk p), .elem (.own i) 0 0, .elem (.own j) 0 0] h = some (Bo (isLk a b p), h) := by
  refine r_i_LinkOf_1 g ?_
  unfold cc_i_LinkOf_1
  obtain ⟨x, y⟩ := p
  have e1 : i ≠ h.next := by omega
  have e2 : j ≠ h.next := by omega
  cases hc : (x == a && y == b) <;> simp [box, addRow, updR, hi, hj, e1, e2, isLk, hc, lk]

theorem i_LinkOf (g : Good X) (n : Int) {v : AV} {links : List (Int × Int)} (hs : SV v (links.map lk)) (bl : links.length ≤ 2 ^ 40) (a b : Int) (h : Hp) :
    Pc (pk X) 103 [.agg [I n, v], I a, I b] h = some (I (linkOf links a b), h) := by
  refine r_i_LinkOf g ?_
  unfold cc_i_LinkOf
  have this := sl_IndexFunc_Si_Link_i_Link g hs (lk_uni links) (by simpa using bl) 122 [] [.elem (.own (h.next + 1)) 0 0, .elem (.own (h.next + 1 + 1)) 0 0]
    (fun c => match c with | [.lit (.int _ x), .lit (.int _ y)] => isLk a b (x, y) | _ => false)
    (addRow (addRow (addRow { h with lo := h.next } 36 2 [[I n, v]]) 3 1 [[I a]]) 3 1 [[I b]]) (by
      intro x hx
      obtain ⟨p, _, rfl⟩ := List.mem_map.1 hx
      exact i_LinkOf_1 g p a b _ _ _ (by simp [addRow, updR]) (by simp [addRow, updR]) (by simp [addRow]) (by simp [addRow]))
  rw [idxF_map] at this
  simp [box, hs.cells, hs.one, addRow, updR, hs.get] at this ⊢
  simp [this]
  rfl
end Go.Proofs.Ev
end
section
/- The functions: networks, on. -/
set_option linter.unusedVariables false
set_option linter.unusedSimpArgs false
namespace Go.Proofs.Ev
open Go Go.RowKit
variable {X : FuncId → Option (List AV → Hp → Option (AV × Hp))}

/-! Rows of links. -/
theorem lk_len {v : AV} {links : List (Int × Int)} (hs : SV v (links.map lk)) (h : Hp) : lenA (pk X).T h 34 v = some (I links.length) := by
  have := hs.len (X := X) 34 h (by simp [slT])
  simpa using this
theorem lk_at {v : AV} {links : List (Int × Int)} (hs : SV v (links.map lk)) {k : Nat} (hk : k < links.length) (h : Hp) : idxAddr (pk X).T h 34 v (I k) = some (.elem v k 0) :=
  hs.at_ (X := X) 34 (by simp) t_109 (by simpa using hk) (by simp [lk]) h
theorem lk_ati {v : AV} {links : List (Int × Int)} (hs : SV v (links.map lk)) {k : Int} (h0 : 0 ≤ k) (hk : k < links.length) (h : Hp) : idxAddr (pk X).T h 34 v (I k) = some (.elem v k.toNat 0) := by
  obtain ⟨n, rfl⟩ := Int.eq_ofNat_of_zero_le h0
  exact lk_at hs (by omega) h

theorem s_LinkOf (g : Good X) (n : Int) {v : AV} {links : List (Int × Int)} (hs : SV v (links.map lk)) (bl : links.length ≤ 2 ^ 40) (x y : Int) (h : Hp) :
    Pc (pk X) 98 [.agg [I n, v], I x, I y] h = some (I (linkOf links x y), h) := by
  refine r_s_LinkOf g ?_
  unfold cc_s_LinkOf
  have hcv := hs.cells; have hov := hs.one
  simp [box, hcv, hov]
  generalize hH : addRow { rows := h.rows, next := h.next, lo := h.next } 36 2 [[I n, v]] = H
  have hrow : H.rows h.next = some ⟨36, 2, [[I n, v]]⟩ := by rw [← hH]; simp [addRow, updR]
  obtain ⟨e, s', h', he, hq⟩ := for_rule (b := evC (pk X).T (Pc (pk X)) L0_s_LinkOf) links.length
    (fun i s h1 => i ≤ links.length ∧ h1 = H ∧ (∃ a b, s = [(0, .agg [I n, v]), (1, I x), (2, I y), (3, .elem (.own h.next) 0 0), (6, I 0), (7, I i), (12, a), (34, b)]) ∧ idxF (isLk x y) i (links.drop i) = linkOf links x y)
    (fun e s h1 => h1 = H ∧ ∃ i a b k, s = [(0, .agg [I n, v]), (1, I x), (2, I y), (3, .elem (.own h.next) 0 0), (6, I k), (7, i), (12, a), (34, b)] ∧ ((e = .ret ∧ linkOf links x y = k) ∨ (e = .exit 0 ∧ linkOf links x y = -1)))
    (s := [(0, .agg [I n, v]), (1, I x), (2, I y), (3, .elem (.own h.next) 0 0), (6, I 0), (7, I 0), (12, .lit undef), (34, .lit undef)]) (h := H) (by simp [linkOf]) (fun i s h1 hI => hI.1) (by
      rintro i s h1 ⟨hi, rfl, ⟨a, b, rfl⟩, hf⟩
      unfold L0_s_LinkOf
      by_cases hlt : i < links.length
      · have hw2 := wadd (x := i) (y := 1) (by omega) (by omega)
        rw [List.drop_eq_getElem_cons hlt] at hf
        simp only [idxF] at hf
        have hlen := lk_len (X := X) hs
        have hat := lk_at (X := X) hs hlt
        generalize hp : links[i] = p at hf
        obtain ⟨p1, p2⟩ := p
        cases hc1 : (p1 == x && p2 == y)
        · cases hc2 : (p1 == y && p2 == x)
          · simp only [isLk, hc1, hc2, Bool.or_self, Bool.false_eq_true, if_false] at hf
            simp [hrow, hlen, hat, hlt, hs.get, hp, hc1, hc2, hw2, hf]
            omega
          · simp only [isLk, hc1, hc2, Bool.or_true, if_true] at hf
            simp [hrow, hlen, hat, hlt, hs.get, hp, hc1, hc2, hw2, ← hf]
        · simp only [isLk, hc1, Bool.true_or, if_true] at hf
          simp [hrow, hlen, hat, hlt, hs.get, hp, hc1, hw2, ← hf]
      · have : i = links.length := by omega
        subst this
        rw [List.drop_length] at hf
        have hlen := lk_len (X := X) hs
        simp [← hf, idxF, hrow, hlen])
  rw [he]
  obtain ⟨rfl, i, a, b, k, rfl, ⟨rfl, hk⟩ | ⟨rfl, hk⟩⟩ := hq <;> simp [hk]

theorem i_across (g : Good X) (p : Int × Int) (k : Int) (h : Hp) :
    Pc (pk X) 134 [.agg (lk p), I k] h = some (I (if k = p.1 then p.2 else if k = p.2 then p.1 else -1), h) := by
  refine r_i_Link_across g ?_
  unfold cc_i_Link_across
  obtain ⟨a, b⟩ := p
  by_cases h1 : k = a
  · subst h1
    simp [box, addRow, updR, lk]
  · have e1 : (k == a) = false := by simpa using h1
    by_cases h2 : k = b
    · subst h2
      simp [box, addRow, updR, lk, h1, e1]
    · have e2 : (k == b) = false := by simpa using h2
      simp [box, addRow, updR, lk, h1, h2, e1, e2]

/-! A network. -/
def allF {α : Type} (p : Int → α → Bool) (k : Int) : List α → Bool
  | [] => true
  | x :: l => p k x && allF p (k + 1) l
def okLk (n : Int) (links : List (Int × Int)) (i : Int) (p : Int × Int) : Bool :=
  (decide (0 ≤ p.1) && decide (p.1 ≤ n - 1)) && (decide (0 ≤ p.2) && decide (p.2 ≤ n - 1)) && !(p.1 == p.2) && !(decide (linkOf links p.1 p.2 < i))
def isNet (n : Int) (links : List (Int × Int)) : Bool :=
  (decide (1 ≤ n) && decide (n ≤ 8)) && (decide ((1 : Int) ≤ links.length) && decide ((links.length : Int) ≤ 6)) && allF (okLk n links) 0 links

theorem idxF_le {α : Type} (p : α → Bool) : ∀ (l : List α) (k : Int) (i : Nat) (hi : i < l.length), p l[i] = true → idxF p k l ≤ k + i
  | x :: l, k, 0, _, h => by simp only [List.getElem_cons_zero] at h; simp [idxF, h]
  | x :: l, k, i + 1, hi, h => by
    simp only [idxF]
    split
    · omega
    · have := idxF_le p l (k + 1) i (by simpa using hi) (by simpa using h)
      omega
theorem idxF_ge {α : Type} (p : α → Bool) : ∀ (l : List α) (k : Int), -1 ≤ k → -1 ≤ idxF p k l
  | [], k, h => by simp [idxF]
  | x :: l, k, h => by
    simp only [idxF]
    split
    · exact h
    · exact idxF_ge p l (k + 1) (by omega)
theorem linkOf_le {links : List (Int × Int)} {i : Nat} (hi : i < links.length) : linkOf links links[i].1 links[i].2 ≤ i := by
  have := idxF_le (isLk links[i].1 links[i].2) links 0 i hi (by simp [isLk])
  unfold linkOf
  omega

theorem s_IsNet (g : Good X) (n : Int) {v : AV} {links : List (Int × Int)} (hs : SV v (links.map lk)) (bl : links.length ≤ 2 ^ 40) (bn : -2 ^ 63 ≤ n ∧ n < 2 ^ 63) (h : Hp) :
    Pc (pk X) 60 [.agg [I n, v]] h = some (Bo (isNet n links), h) := by
  refine r_s_IsNet g ?_
  unfold cc_s_IsNet
  have hcv := hs.cells; have hov := hs.one
  have hlen := lk_len (X := X) hs
  have hrow : (addRow { rows := h.rows, next := h.next, lo := h.next } 36 2 [[I n, v]]).rows h.next = some ⟨36, 2, [[I n, v]]⟩ := by simp [addRow, updR]
  generalize hH : addRow { rows := h.rows, next := h.next, lo := h.next } 36 2 [[I n, v]] = H at hrow
  cases hc1 : (decide (1 ≤ n) && decide (n ≤ 8))
  · simp [box, hcv, hov, hH, hrow, s_l1In g, hc1, isNet]
  cases hc2 : (decide ((1 : Int) ≤ links.length) && decide ((links.length : Int) ≤ 6))
  · simp [box, hcv, hov, hH, hrow, s_l1In g, hc1, isNet, hlen, hc2]
  simp [box, hcv, hov, hH, hrow, s_l1In g, hc1, isNet, hlen, hc2]
  have hn : 1 ≤ n ∧ n ≤ 8 := by simpa using hc1
  obtain ⟨e, s', h', he, hq⟩ := for_rule (b := evC (pk X).T (Pc (pk X)) L0_s_IsNet) links.length
    (fun i s h1 => i ≤ links.length ∧ h1 = H ∧ (∃ a b c d, s = [(0, .agg [I n, v]), (1, .elem (.own h.next) 0 0), (2, Bo false), (3, I i), (4, a), (5, b), (16, Bo false), (21, c), (62, d)]) ∧ allF (okLk n links) i (links.drop i) = allF (okLk n links) 0 links)
    (fun e s h1 => h1 = H ∧ ∃ i a b c d, s = [(0, .agg [I n, v]), (1, .elem (.own h.next) 0 0), (2, Bo false), (3, i), (4, a), (5, b), (16, Bo false), (21, c), (62, d)] ∧ ((e = .ret ∧ allF (okLk n links) 0 links = false) ∨ (e = .exit 0 ∧ allF (okLk n links) 0 links = true)))
    (s := [(0, .agg [I n, v]), (1, .elem (.own h.next) 0 0), (2, Bo false), (3, I 0), (4, .lit undef), (5, .lit undef), (16, Bo false), (21, .lit undef), (62, .lit undef)]) (h := H) (by simp) (fun i s h1 hI => hI.1) (by
      rintro i s h1 ⟨hi, rfl, ⟨a, b, c, d, rfl⟩, hf⟩
      unfold L0_s_IsNet
      by_cases hlt : i < links.length
      · have hw2 := wadd (x := i) (y := 1) (by omega) (by omega)
        have hw3 := wsub (x := n) (y := 1) (by omega) (by omega)
        rw [List.drop_eq_getElem_cons hlt] at hf
        simp only [allF] at hf
        have hat := lk_at (X := X) hs hlt
        have hlo := fun x y h => s_LinkOf g n hs bl x y h
        generalize hp : links[i] = p at hf
        obtain ⟨p1, p2⟩ := p
        cases hc1 : (decide (0 ≤ p1) && decide (p1 ≤ n - 1))
        · simp only [okLk, hc1, Bool.false_and] at hf
          simp [hrow, hlen, hat, hlt, hs.get, hp, hc1, hw2, hw3, s_l1In g, ← hf]
        cases hc2 : (decide (0 ≤ p2) && decide (p2 ≤ n - 1))
        · simp only [okLk, hc1, hc2, Bool.false_and, Bool.and_false] at hf
          simp [hrow, hlen, hat, hlt, hs.get, hp, hc1, hc2, hw2, hw3, s_l1In g, ← hf]
        cases hc3 : (p1 == p2)
        · cases hc4 : decide (linkOf links p1 p2 < i)
          · simp only [okLk, hc1, hc2, hc3, hc4, Bool.and_self, Bool.not_false, Bool.true_and] at hf
            simp [hrow, hlen, hat, hlt, hs.get, hp, hc1, hc2, hc3, hc4, hw2, hw3, s_l1In g, hlo, hf]
            omega
          · simp only [okLk, hc1, hc2, hc3, hc4, Bool.and_self, Bool.not_false, Bool.not_true, Bool.and_false, Bool.false_and] at hf
            simp [hrow, hlen, hat, hlt, hs.get, hp, hc1, hc2, hc3, hc4, hw2, hw3, s_l1In g, hlo, ← hf]
        · simp only [okLk, hc1, hc2, hc3, Bool.and_self, Bool.not_true, Bool.and_false, Bool.false_and] at hf
          simp [hrow, hlen, hat, hlt, hs.get, hp, hc1, hc2, hc3, hw2, hw3, s_l1In g, ← hf]
      · have : i = links.length := by omega
        subst this
        rw [List.drop_length] at hf
        simp [← hf, allF, hrow, hlen])
  rw [he]
  obtain ⟨rfl, i, a, b, c, d, rfl, ⟨rfl, hk⟩ | ⟨rfl, hk⟩⟩ := hq <;> simp [hk]
end Go.Proofs.Ev
end
section
/- The functions: networks, on. -/
set_option linter.unusedVariables false
set_option linter.unusedSimpArgs false
namespace Go.Proofs.Ev
open Go Go.RowKit
variable {X : FuncId → Option (List AV → Hp → Option (AV × Hp))}

/-- A heap in which a row of this run's stands, and others after it. -/
structure HB (h : Hp) (r : Row) (h1 : Hp) : Prop where
  lo : h1.lo = h.next
  nx : h.next < h1.next
  row : h1.rows h.next = some r

theorem i_IsNet (g : Good X) (n : Int) {v : AV} {links : List (Int × Int)} (hs : SV v (links.map lk)) (bl : links.length ≤ 2 ^ 40) (bn : -2 ^ 63 ≤ n ∧ n < 2 ^ 63) (h : Hp) :
    Pc (pk X) 73 [.agg [I n, v]] h = some (Bo (isNet n links), h) := by
  refine r_i_IsNet g ?_
  unfold cc_i_IsNet
  have hcv := hs.cells; have hov := hs.one
  have hlen := lk_len (X := X) hs
  have hrow : (addRow { rows := h.rows, next := h.next, lo := h.next } 36 2 [[I n, v]]).rows h.next = some ⟨36, 2, [[I n, v]]⟩ := by simp [addRow, updR]
  have hHB : HB h ⟨36, 2, [[I n, v]]⟩ (addRow { rows := h.rows, next := h.next, lo := h.next } 36 2 [[I n, v]]) := ⟨rfl, Nat.lt_succ_self _, hrow⟩
  generalize hH : addRow { rows := h.rows, next := h.next, lo := h.next } 36 2 [[I n, v]] = H at hrow hHB
  cases hc1 : (decide (1 ≤ n) && decide (n ≤ 8))
  · simp [box, hcv, hov, hH, hrow, i_InRange g, hc1, isNet]
  cases hc2 : (decide ((1 : Int) ≤ links.length) && decide ((links.length : Int) ≤ 6))
  · simp [box, hcv, hov, hH, hrow, i_InRange g, hc1, isNet, hlen, hc2]
  simp [box, hcv, hov, hH, hrow, i_InRange g, hc1, isNet, hlen, hc2]
  have hn : 1 ≤ n ∧ n ≤ 8 := by simpa using hc1
  obtain ⟨e, s', h', he, hq⟩ := for_rule (b := evC (pk X).T (Pc (pk X)) L0_i_IsNet) links.length
    (fun i s h1 => i ≤ links.length ∧ HB h ⟨36, 2, [[I n, v]]⟩ h1 ∧ (∃ a b c d, s = [(0, .agg [I n, v]), (1, .elem (.own h.next) 0 0), (2, Bo false), (3, a), (4, b), (15, Bo false), (17, v), (18, I links.length), (19, I i), (20, c), (54, d)]) ∧ allF (okLk n links) i (links.drop i) = allF (okLk n links) 0 links)
    (fun e s h1 => ∃ i a b c d, s = [(0, .agg [I n, v]), (1, .elem (.own h.next) 0 0), (2, Bo false), (3, a), (4, b), (15, Bo false), (17, v), (18, I links.length), (19, i), (20, c), (54, d)] ∧ ((e = .ret ∧ allF (okLk n links) 0 links = false) ∨ (e = .exit 0 ∧ allF (okLk n links) 0 links = true)))
    (s := [(0, .agg [I n, v]), (1, .elem (.own h.next) 0 0), (2, Bo false), (3, .lit undef), (4, .lit undef), (15, Bo false), (17, v), (18, I links.length), (19, I 0), (20, .lit undef), (54, .lit undef)]) (h := H) (by simp [hHB]) (fun i s h1 hI => hI.1) (by
      rintro i s h1 ⟨hi, hb, ⟨a, b, c, d, rfl⟩, hf⟩
      unfold L0_i_IsNet
      by_cases hlt : i < links.length
      · have hw2 := wadd (x := i) (y := 1) (by omega) (by omega)
        rw [List.drop_eq_getElem_cons hlt] at hf
        simp only [allF] at hf
        have hat := lk_at (X := X) hs hlt
        have hlo := fun x y h => i_LinkOf g n hs bl x y h
        have hle := linkOf_le hlt
        generalize hp : links[i] = p at hf hle
        obtain ⟨p1, p2⟩ := p
        have hne : h.next ≠ h1.next := Nat.ne_of_lt hb.nx
        have hlo2 : h1.lo ≤ h1.next := by rw [hb.lo]; exact Nat.le_of_lt hb.nx
        have e1 : decide (p1 ≤ n - 1) = decide (p1 < n) := by simp; omega
        have e2 : decide (p2 ≤ n - 1) = decide (p2 < n) := by simp; omega
        simp only [okLk, e1, e2] at hf
        cases hc3 : (p1 == p2)
        · cases hc1 : (decide (0 ≤ p1) && decide (p1 < n))
          · simp only [hc1, Bool.false_and] at hf
            simp [alloc, stor, addRow, updR, hne, hlo2, hb.row, hat, hlt, hs.get, hp, hc1, hc3, hw2, i_at g, ← hf]
          cases hc2 : (decide (0 ≤ p2) && decide (p2 < n))
          · simp only [hc1, hc2, Bool.false_and, Bool.and_false] at hf
            simp [alloc, stor, addRow, updR, hne, hlo2, hb.row, hat, hlt, hs.get, hp, hc1, hc2, hc3, hw2, i_at g, ← hf]
          cases hc4 : decide (linkOf links p1 p2 < i)
          · have hc5 : (linkOf links p1 p2 != (i : Int)) = false := by simp at hc4 ⊢; simp only at hle; omega
            simp only [hc1, hc2, hc3, hc4, Bool.and_self, Bool.not_false, Bool.true_and] at hf
            simp [alloc, stor, addRow, hne, hlo2, hb.row, hat, hlt, hs.get, hp, hc1, hc2, hc3, hc5, hw2, i_at g, hlo, hf]
            exact ⟨by omega, hb.lo, Nat.lt_succ_of_lt hb.nx, by simp [hne, hb.row]⟩
          · have hc5 : (linkOf links p1 p2 != (i : Int)) = true := by simp at hc4 ⊢; omega
            simp only [hc1, hc2, hc3, hc4, Bool.and_self, Bool.not_false, Bool.not_true, Bool.and_false, Bool.false_and] at hf
            simp [alloc, stor, addRow, updR, hne, hlo2, hb.row, hat, hlt, hs.get, hp, hc1, hc2, hc3, hc5, hw2, i_at g, hlo, ← hf]
        · simp only [hc3, Bool.not_true, Bool.and_false, Bool.false_and] at hf
          simp [alloc, stor, addRow, updR, hne, hlo2, hb.row, hat, hlt, hs.get, hp, hc3, hw2, ← hf]
      · have : i = links.length := by omega
        subst this
        rw [List.drop_length] at hf
        simp [← hf, allF])
  rw [he]
  obtain ⟨i, a, b, c, d, rfl, ⟨rfl, hk⟩ | ⟨rfl, hk⟩⟩ := hq <;> simp [hk]
end Go.Proofs.Ev
end
section
/- The functions: where a path ends. -/
set_option linter.unusedVariables false
set_option linter.unusedSimpArgs false
namespace Go.Proofs.Ev
open Go Go.RowKit
variable {X : FuncId → Option (List AV → Hp → Option (AV × Hp))}

def endOf (links : List (Int × Int)) : List Int → Int → Int
  | [], now => now
  | k :: path, now => if (decide (0 ≤ k) && decide (k < links.length)) = true then
      (if (now == (links.getD k.toNat (0, 0)).1) = true then endOf links path (links.getD k.toNat (0, 0)).2
       else if (now == (links.getD k.toNat (0, 0)).2) = true then endOf links path (links.getD k.toNat (0, 0)).1 else -1)
    else -1

theorem s_EndOf (g : Good X) (n : Int) {v vp : AV} {links : List (Int × Int)} {path : List Int} (hs : SV v (links.map lk)) (hv : SVI vp path) (bl : links.length ≤ 2 ^ 40) (bp : path.length ≤ 2 ^ 40) (a0 : Int) (h : Hp) :
    Pc (pk X) 120 [.agg [I n, v], vp, I a0] h = some (I (endOf links path a0), h) := by
  refine r_s_EndOf g ?_
  unfold cc_s_EndOf
  have hcv := hs.cells; have hov := hs.one
  have hlen := lk_len (X := X) hs
  have hrow : (addRow { rows := h.rows, next := h.next, lo := h.next } 36 2 [[I n, v]]).rows h.next = some ⟨36, 2, [[I n, v]]⟩ := by simp [addRow]
  have hHB : HB h ⟨36, 2, [[I n, v]]⟩ (addRow { rows := h.rows, next := h.next, lo := h.next } 36 2 [[I n, v]]) := ⟨rfl, Nat.lt_succ_self _, hrow⟩
  generalize hH : addRow { rows := h.rows, next := h.next, lo := h.next } 36 2 [[I n, v]] = H at hrow hHB
  simp [box, hcv, hov, hH]
  obtain ⟨e, s', h', he, hq⟩ := for_rule (b := evC (pk X).T (Pc (pk X)) L0_s_EndOf) path.length
    (fun i s h1 => i ≤ path.length ∧ HB h ⟨36, 2, [[I n, v]]⟩ h1 ∧ (∃ now a b c d e f, s = [(0, .agg [I n, v]), (1, vp), (2, I a0), (3, .elem (.own h.next) 0 0), (6, I 0), (7, I now), (8, I i), (9, a), (14, b), (26, c), (35, d), (36, e), (42, f)] ∧ endOf links (path.drop i) now = endOf links path a0))
    (fun e s h1 => ∃ r now i a b c d e' f, s = [(0, .agg [I n, v]), (1, vp), (2, I a0), (3, .elem (.own h.next) 0 0), (6, I r), (7, I now), (8, i), (9, a), (14, b), (26, c), (35, d), (36, e'), (42, f)] ∧ ((e = .ret ∧ endOf links path a0 = r) ∨ (e = .exit 0 ∧ endOf links path a0 = now)))
    (s := [(0, .agg [I n, v]), (1, vp), (2, I a0), (3, .elem (.own h.next) 0 0), (6, I 0), (7, I a0), (8, I 0), (9, .lit undef), (14, .lit undef), (26, .lit undef), (35, .lit undef), (36, .lit undef), (42, .lit undef)]) (h := H) ⟨by omega, hHB, a0, _, _, _, _, _, _, rfl, by simp⟩ (fun i s h1 hI => hI.1) (by
      rintro i s h1 ⟨hi, hb, now, a, b, c, d, e, f, rfl, hf⟩
      unfold L0_s_EndOf
      have hne : h.next ≠ h1.next := Nat.ne_of_lt hb.nx
      have hlo2 : h1.lo ≤ h1.next := by rw [hb.lo]; exact Nat.le_of_lt hb.nx
      by_cases hlt : i < path.length
      · have hw2 := wadd (x := i) (y := 1) (by omega) (by omega)
        have hw3 := wsub (x := links.length) (y := 1) (by omega) (by omega)
        rw [List.drop_eq_getElem_cons hlt] at hf
        simp only [endOf] at hf
        have hidx := hv.idx (X := X)
        generalize hk : path[i] = k at hf
        have e1 : decide (k ≤ (links.length : Int) - 1) = decide (k < links.length) := by simp; omega
        cases hc1 : (decide (0 ≤ k) && decide (k < (links.length : Int))) <;> rw [hc1] at hf
        · simp only [Bool.false_eq_true, if_false] at hf
          simp [hb.row, hlen, hv.len, hidx, hlt, hv.get, hk, hw3, s_l1In g, e1, hc1, ← hf]
        · have hc1' := hc1
          simp only [Bool.and_eq_true, decide_eq_true_eq] at hc1'
          have hkk : k.toNat < links.length := by omega
          have hat := lk_ati (X := X) hs hc1'.1 hc1'.2
          simp only [if_true, List.getD_eq_getElem?_getD, List.getElem?_eq_getElem hkk, Option.getD_some] at hf
          generalize hp : links[k.toNat] = p at hf
          obtain ⟨p1, p2⟩ := p
          cases hc2 : (now == p1)
          · cases hc3 : (now == p2)
            · simp only [hc2, hc3, Bool.false_eq_true, if_false] at hf
              simp [alloc, stor, addRow, hne, hlo2, hb.row, hlen, hv.len, hidx, hlt, hv.get, hk, hw3, s_l1In g, e1, hc1, hat, hs.get, hkk, hp, hc2, hc3, ← hf]
            · simp only [hc2, hc3, Bool.false_eq_true, if_false, if_true] at hf
              simp [alloc, stor, addRow, hne, hlo2, hb.row, hlen, hv.len, hidx, hlt, hv.get, hk, hw2, hw3, s_l1In g, e1, hc1, hat, hs.get, hkk, hp, hc2, hc3, ← hf]
              exact ⟨by omega, hb.lo, Nat.lt_succ_of_lt hb.nx, by simp [hne, hb.row]⟩
          · simp only [hc2, if_true] at hf
            simp [alloc, stor, addRow, hne, hlo2, hb.row, hlen, hv.len, hidx, hlt, hv.get, hk, hw2, hw3, s_l1In g, e1, hc1, hat, hs.get, hkk, hp, hc2, ← hf]
            exact ⟨by omega, hb.lo, Nat.lt_succ_of_lt hb.nx, by simp [hne, hb.row]⟩
      · have : i = path.length := by omega
        subst this
        rw [List.drop_length] at hf
        simp [← hf, endOf, hv.len])
  rw [he]
  obtain ⟨r, now, i, a, b, c, d, e', f, rfl, ⟨rfl, hk⟩ | ⟨rfl, hk⟩⟩ := hq <;> simp [hk]

theorem i_EndOf (g : Good X) (n : Int) {v vp : AV} {links : List (Int × Int)} {path : List Int} (hs : SV v (links.map lk)) (hv : SVI vp path) (bl : links.length ≤ 2 ^ 40) (bp : path.length ≤ 2 ^ 40) (a0 : Int) (h : Hp) :
    Pc (pk X) 127 [.agg [I n, v], vp, I a0] h = some (I (endOf links path a0), h) := by
  refine r_i_EndOf g ?_
  unfold cc_i_EndOf
  have hcv := hs.cells; have hov := hs.one
  have hlen := lk_len (X := X) hs
  have hrow : (addRow { rows := h.rows, next := h.next, lo := h.next } 36 2 [[I n, v]]).rows h.next = some ⟨36, 2, [[I n, v]]⟩ := by simp [addRow]
  have hHB : HB h ⟨36, 2, [[I n, v]]⟩ (addRow { rows := h.rows, next := h.next, lo := h.next } 36 2 [[I n, v]]) := ⟨rfl, Nat.lt_succ_self _, hrow⟩
  generalize hH : addRow { rows := h.rows, next := h.next, lo := h.next } 36 2 [[I n, v]] = H at hrow hHB
  simp [box, hcv, hov, hH, hv.len]
  obtain ⟨e, s', h', he, hq⟩ := for_rule (b := evC (pk X).T (Pc (pk X)) L0_i_EndOf) path.length
    (fun i s h1 => i ≤ path.length ∧ HB h ⟨36, 2, [[I n, v]]⟩ h1 ∧ (∃ now a b c d e, s = [(0, .agg [I n, v]), (1, vp), (2, I now), (3, .elem (.own h.next) 0 0), (6, I 0), (8, a), (9, b), (10, vp), (11, I path.length), (12, I i), (13, c), (21, d), (36, e)] ∧ endOf links (path.drop i) now = endOf links path a0))
    (fun e s h1 => ∃ r now i a b c d e', s = [(0, .agg [I n, v]), (1, vp), (2, I now), (3, .elem (.own h.next) 0 0), (6, I r), (8, a), (9, b), (10, vp), (11, I path.length), (12, i), (13, c), (21, d), (36, e')] ∧ ((e = .ret ∧ endOf links path a0 = r) ∨ (e = .exit 0 ∧ endOf links path a0 = now)))
    (s := [(0, .agg [I n, v]), (1, vp), (2, I a0), (3, .elem (.own h.next) 0 0), (6, I 0), (8, .lit undef), (9, .lit undef), (10, vp), (11, I path.length), (12, I 0), (13, .lit undef), (21, .lit undef), (36, .lit undef)]) (h := H) ⟨by omega, hHB, a0, _, _, _, _, _, rfl, by simp⟩ (fun i s h1 hI => hI.1) (by
      rintro i s h1 ⟨hi, hb, now, a, b, c, d, e, rfl, hf⟩
      unfold L0_i_EndOf
      have hne : h.next ≠ h1.next := Nat.ne_of_lt hb.nx
      have hlo2 : h1.lo ≤ h1.next := by rw [hb.lo]; exact Nat.le_of_lt hb.nx
      by_cases hlt : i < path.length
      · have hw2 := wadd (x := i) (y := 1) (by omega) (by omega)
        rw [List.drop_eq_getElem_cons hlt] at hf
        simp only [endOf] at hf
        have hidx := hv.idx (X := X)
        generalize hk : path[i] = k at hf
        cases hc1 : (decide (0 ≤ k) && decide (k < (links.length : Int))) <;> rw [hc1] at hf
        · simp only [Bool.false_eq_true, if_false] at hf
          simp [hb.row, hlen, hidx, hlt, hv.get, hk, i_at g, hc1, ← hf]
        · have hc1' := hc1
          simp only [Bool.and_eq_true, decide_eq_true_eq] at hc1'
          have hkk : k.toNat < links.length := by omega
          have hat := lk_ati (X := X) hs hc1'.1 hc1'.2
          simp only [if_true, List.getD_eq_getElem?_getD, List.getElem?_eq_getElem hkk, Option.getD_some] at hf
          generalize hp : links[k.toNat] = p at hf
          obtain ⟨p1, p2⟩ := p
          have hac := fun h => i_across g (p1, p2) now h
          by_cases hc2 : now = p1
          · have hc2' : (now != p1) = false := by simpa using hc2
            simp only [hc2, beq_self_eq_true, if_true] at hf
            simp only [hc2, if_true] at hac
            simp [alloc, stor, addRow, hne, hlo2, hb.row, hlen, hidx, hlt, hv.get, hk, hw2, i_at g, hc1, hat, hs.get, hkk, hp, hc2, hc2', hac, ← hf]
            exact ⟨by omega, hb.lo, Nat.lt_succ_of_lt hb.nx, by simp [hne, hb.row]⟩
          · have hc2' : (now != p1) = true := by simpa using hc2
            have hc2'' : (now == p1) = false := by simpa using hc2
            by_cases hc3 : now = p2
            · have hc3' : (now != p2) = false := by simpa using hc3
              have hc4 : p2 ≠ p1 := by rw [← hc3]; exact hc2
              have hc4' : (p2 == p1) = false := by simpa using hc4
              have hc4'' : (p2 != p1) = true := by simpa using hc4
              simp only [hc3, hc4', beq_self_eq_true, if_true, Bool.false_eq_true, if_false] at hf
              simp only [hc3, hc4, if_true, if_false] at hac
              simp [alloc, stor, addRow, hne, hlo2, hb.row, hlen, hidx, hlt, hv.get, hk, hw2, i_at g, hc1, hat, hs.get, hkk, hp, hc3, hc4, hc4'', hac, ← hf]
              exact ⟨by omega, hb.lo, Nat.lt_succ_of_lt hb.nx, by simp [hne, hb.row]⟩
            · have hc3' : (now != p2) = true := by simpa using hc3
              have hc3'' : (now == p2) = false := by simpa using hc3
              simp only [hc2'', hc3'', Bool.false_eq_true, if_false] at hf
              simp [alloc, stor, addRow, hne, hlo2, hb.row, hlen, hidx, hlt, hv.get, hk, i_at g, hc1, hat, hs.get, hkk, hp, hc2', hc3', ← hf]
      · have : i = path.length := by omega
        subst this
        rw [List.drop_length] at hf
        simp [← hf, endOf])
  rw [he]
  obtain ⟨r, now, i, a, b, c, d, e', rfl, ⟨rfl, hk⟩ | ⟨rfl, hk⟩⟩ := hq <;> simp [hk]
end Go.Proofs.Ev
end
section
/- The functions: paths. -/
set_option linter.unusedVariables false
set_option linter.unusedSimpArgs false
namespace Go.Proofs.Ev
open Go Go.RowKit
variable {X : FuncId → Option (List AV → Hp → Option (AV × Hp))}

theorem SVI.cut {v : AV} {l : List Int} (s : SVI v l) {lo hi : Option AV} {a b : Nat} (ha : bnd 0 lo = some (a : Int)) (hb : bnd l.length hi = some (b : Int)) (hab : a ≤ b) (hbl : b ≤ l.length) :
    ∃ v', (∀ h, cut (pk X).T h 25 v lo hi = some v') ∧ SVI v' ((l.take b).drop a) := by
  rcases s with ⟨rfl, e⟩ | ⟨x, rfl⟩
  · have : l = [] := by simpa using e
    subst this
    have h1 : b = 0 := by simpa using hbl
    have h2 : a = 0 := by omega
    subst h1 h2
    simp only [List.length_nil] at hb
    refine ⟨.nilS, fun h => ?_, .inl ⟨rfl, by simp⟩⟩
    have hb' : bnd 0 hi = some 0 := hb
    have ha' : bnd 0 lo = some 0 := ha
    rw [Go.Proofs.Ev.cut.eq_def]
    simp [ha', hb']
  · refine ⟨.imm false (((l.map fun n => [I n]).take b).drop a), fun h => ?_, .inr ⟨false, by simp [List.map_take, List.map_drop]⟩⟩
    have hb' : bnd ((l.map fun n => [I n]).length : Int) hi = some (b : Int) := by simpa using hb
    have hr : rowOk 1 (l.map fun n => [I n]) = true := by simp [rowOk]
    rw [Go.Proofs.Ev.cut.eq_def]
    simp only [t_25, Option.bind_some, t_3, ha, hb', hr]
    rw [if_pos (by simp; omega)]
    simp

theorem sl_Index_int (g : Good X) {v : AV} {l : List Int} (hl : SVI v l) (bl : l.length ≤ 2 ^ 40) (x : Int) (h : Hp) :
    Pc (pk X) 133 [v, I x] h = some (I (idxF (fun y => x == y) 0 l), h) := by
  refine r_sl_Index_Sint_int g ?_
  unfold cc_sl_Index_Sint_int
  simp [hl.len]
  obtain ⟨e, s', h', he, hq⟩ := for_rule (b := evC (pk X).T (Pc (pk X)) L0_sl_Index_Sint_int) l.length
    (fun i s h1 => i ≤ l.length ∧ h1 = { h with lo := h.next } ∧ (∃ a b c, s = [(0, v), (1, I x), (4, I 0), (5, a), (7, I l.length), (8, I i), (9, b), (16, c)]) ∧ idxF (fun y => x == y) i (l.drop i) = idxF (fun y => x == y) 0 l)
    (fun e s h1 => h1 = { h with lo := h.next } ∧ ∃ a b c d k, s = [(0, v), (1, I x), (4, I k), (5, a), (7, I l.length), (8, d), (9, b), (16, c)] ∧ ((e = .ret ∧ idxF (fun y => x == y) 0 l = k) ∨ (e = .exit 0 ∧ idxF (fun y => x == y) 0 l = -1)))
    (s := [(0, v), (1, I x), (4, I 0), (5, .lit undef), (7, I l.length), (8, I 0), (9, .lit undef), (16, .lit undef)]) (h := { h with lo := h.next }) (by simp) (fun i s h1 hI => hI.1) (by
      rintro i s h1 ⟨hi', rfl, ⟨a, b, c, rfl⟩, hf⟩
      unfold L0_sl_Index_Sint_int
      by_cases hlt : i < l.length
      · have hw2 := wadd (x := i) (y := 1) (by omega) (by omega)
        rw [List.drop_eq_getElem_cons hlt] at hf
        simp only [idxF] at hf
        cases hc : (x == l[i])
        · simp only [hc, Bool.false_eq_true, if_false] at hf
          simp [hl.idx, hlt, hl.get, hw2, hc, hf]
          omega
        · simp only [hc, if_true] at hf
          simp [hl.idx, hlt, hl.get, hw2, hc, ← hf]
      · have : i = l.length := by omega
        subst this
        rw [List.drop_length] at hf
        simp [← hf, idxF])
  rw [he]
  obtain ⟨rfl, a, b, c, d, k, rfl, ⟨rfl, hk⟩ | ⟨rfl, hk⟩⟩ := hq <;> simp [hk]

theorem sl_Contains_int (g : Good X) {v : AV} {l : List Int} (hl : SVI v l) (bl : l.length ≤ 2 ^ 40) (x : Int) (h : Hp) :
    Pc (pk X) 126 [v, I x] h = some (Bo (l.contains x), h) := by
  refine r_sl_Contains_Sint_int g ?_
  unfold cc_sl_Contains_Sint_int
  have e : decide (0 ≤ idxF (fun y => x == y) 0 l) = l.contains x := by
    rw [idxF_any _ _ _ (Int.le_refl 0), List.contains_eq_any_beq]
  simp [sl_Index_int g hl bl]
  simpa using e

theorem s_l7Has (g : Good X) {v : AV} {l : List Int} (hl : SVI v l) (bl : l.length ≤ 2 ^ 40) (x : Int) (h : Hp) :
    Pc (pk X) 100 [v, I x] h = some (Bo (l.contains x), h) := by
  refine r_s_l7Has g ?_
  unfold cc_s_l7Has
  simp
  obtain ⟨e, s', h', he, hq⟩ := for_rule (b := evC (pk X).T (Pc (pk X)) L0_s_l7Has) l.length
    (fun i s h1 => i ≤ l.length ∧ h1 = { h with lo := h.next } ∧ (∃ a b, s = [(0, v), (1, I x), (4, Bo false), (5, I i), (9, a), (17, b)]) ∧ (l.drop i).contains x = l.contains x)
    (fun e s h1 => h1 = { h with lo := h.next } ∧ ∃ a b c d, s = [(0, v), (1, I x), (4, Bo c), (5, d), (9, a), (17, b)] ∧ ((e = .ret ∧ l.contains x = c) ∨ (e = .exit 0 ∧ l.contains x = false)))
    (s := [(0, v), (1, I x), (4, Bo false), (5, I 0), (9, .lit undef), (17, .lit undef)]) (h := { h with lo := h.next }) (by simp) (fun i s h1 hI => hI.1) (by
      rintro i s h1 ⟨hi', rfl, ⟨a, b, rfl⟩, hf⟩
      unfold L0_s_l7Has
      by_cases hlt : i < l.length
      · have hw2 := wadd (x := i) (y := 1) (by omega) (by omega)
        rw [List.drop_eq_getElem_cons hlt, List.contains_cons] at hf
        cases hc : (l[i] == x)
        · have hc' : (x == l[i]) = false := by rw [BEq.comm]; exact hc
          rw [hc', Bool.false_or] at hf
          simp [hl.idx, hl.len, hlt, hl.get, hw2, hc]
          exact ⟨by omega, by simpa using hf⟩
        · have hc' : (x == l[i]) = true := by rw [BEq.comm]; exact hc
          rw [hc', Bool.true_or] at hf
          simp [hl.idx, hl.len, hlt, hl.get, hw2, hc]
          simpa using hf.symm
      · have : i = l.length := by omega
        subst this
        rw [List.drop_length] at hf
        simp [hl.len]
        simpa using hf.symm)
  rw [he]
  obtain ⟨rfl, a, b, c, d, rfl, ⟨rfl, hk⟩ | ⟨rfl, hk⟩⟩ := hq
  · simp
    simpa using hk.symm
  · simp
    simpa using hk

/-- No number stands twice. -/
def once : List Int → List Int → Bool
  | _, [] => true
  | pre, k :: l => !(pre.contains k) && once (pre ++ [k]) l
def isPath (links : List (Int × Int)) (path : List Int) (a b : Int) : Bool := once [] path && (endOf links path a == b) && (((path.length : Int) == 0) || decide (0 ≤ b))

theorem s_IsPath (g : Good X) (n : Int) {v vp : AV} {links : List (Int × Int)} {path : List Int} (hs : SV v (links.map lk)) (hv : SVI vp path) (bl : links.length ≤ 2 ^ 40) (bp : path.length ≤ 2 ^ 40) (a0 b0 : Int) (h : Hp) :
    Pc (pk X) 99 [.agg [I n, v], vp, I a0, I b0] h = some (Bo (isPath links path a0 b0), h) := by
  refine r_s_IsPath g ?_
  unfold cc_s_IsPath
  have hcv := hs.cells; have hov := hs.one
  have hrow : (addRow { rows := h.rows, next := h.next, lo := h.next } 36 2 [[I n, v]]).rows h.next = some ⟨36, 2, [[I n, v]]⟩ := by simp [addRow]
  generalize hH : addRow { rows := h.rows, next := h.next, lo := h.next } 36 2 [[I n, v]] = H at hrow
  simp [box, hcv, hov, hH]
  obtain ⟨e, s', h', he, hq⟩ := for_rule (b := evC (pk X).T (Pc (pk X)) L0_s_IsPath) path.length
    (fun i s h1 => i ≤ path.length ∧ h1 = H ∧ (∃ a b, s = [(0, .agg [I n, v]), (1, vp), (2, I a0), (3, I b0), (4, .elem (.own h.next) 0 0), (8, Bo false), (9, I i), (13, a), (23, b)]) ∧ once (path.take i) (path.drop i) = once [] path)
    (fun e s h1 => h1 = H ∧ ∃ i a b, s = [(0, .agg [I n, v]), (1, vp), (2, I a0), (3, I b0), (4, .elem (.own h.next) 0 0), (8, Bo false), (9, i), (13, a), (23, b)] ∧ ((e = .ret ∧ once [] path = false) ∨ (e = .exit 0 ∧ once [] path = true)))
    (s := [(0, .agg [I n, v]), (1, vp), (2, I a0), (3, I b0), (4, .elem (.own h.next) 0 0), (8, Bo false), (9, I 0), (13, .lit undef), (23, .lit undef)]) (h := H) (by simp) (fun i s h1 hI => hI.1) (by
      rintro i s h1 ⟨hi, rfl, ⟨a, b, rfl⟩, hf⟩
      unfold L0_s_IsPath
      by_cases hlt : i < path.length
      · have hw2 := wadd (x := i) (y := 1) (by omega) (by omega)
        obtain ⟨vc, hcut, hvc⟩ := hv.cut (X := X) (lo := none) (hi := some (I i)) (a := 0) (b := i) rfl rfl (by omega) hi
        rw [List.drop_zero] at hvc
        rw [List.drop_eq_getElem_cons hlt] at hf
        simp only [once, List.take_append_getElem hlt] at hf
        have hhas := fun h => s_l7Has g hvc (by simp; omega) path[i] h
        cases hc : (path.take i).contains path[i] <;> rw [hc] at hf hhas
        · simp only [Bool.not_false, Bool.true_and] at hf
          simp [hv.len, hv.idx, hlt, hv.get, hcut, hhas, hw2, hf]
          omega
        · simp only [Bool.not_true, Bool.false_and] at hf
          simp [hv.len, hv.idx, hlt, hv.get, hcut, hhas, ← hf]
      · have : i = path.length := by omega
        subst this
        rw [List.drop_length] at hf
        simp [← hf, once, hv.len])
  rw [he]
  have hE := s_EndOf g n hs hv bl bp a0
  obtain ⟨rfl, i, a, b, rfl, ⟨rfl, hk⟩ | ⟨rfl, hk⟩⟩ := hq
  · simp [isPath, hk]
  · cases hc1 : (endOf links path a0 == b0)
    · simp [hrow, hE, hc1, isPath]
    · cases hc2 : decide (0 ≤ b0)
      · simp [hrow, hE, hc1, hc2, isPath, hk, hv.len]
      · simp [hrow, hE, hc1, hc2, isPath, hk]

theorem i_IsPath (g : Good X) (n : Int) {v vp : AV} {links : List (Int × Int)} {path : List Int} (hs : SV v (links.map lk)) (hv : SVI vp path) (bl : links.length ≤ 2 ^ 40) (bp : path.length ≤ 2 ^ 40) (a0 b0 : Int) (h : Hp) :
    Pc (pk X) 108 [.agg [I n, v], vp, I a0, I b0] h = some (Bo (isPath links path a0 b0), h) := by
  refine r_i_IsPath g ?_
  unfold cc_i_IsPath
  have hcv := hs.cells; have hov := hs.one
  have hrow : (addRow { rows := h.rows, next := h.next, lo := h.next } 36 2 [[I n, v]]).rows h.next = some ⟨36, 2, [[I n, v]]⟩ := by simp [addRow]
  generalize hH : addRow { rows := h.rows, next := h.next, lo := h.next } 36 2 [[I n, v]] = H at hrow
  simp [box, hcv, hov, hH, hv.len]
  obtain ⟨e, s', h', he, hq⟩ := for_rule (b := evC (pk X).T (Pc (pk X)) L0_i_IsPath) path.length
    (fun i s h1 => i ≤ path.length ∧ h1 = H ∧ (∃ a b c d, s = [(0, .agg [I n, v]), (1, vp), (2, I a0), (3, I b0), (4, .elem (.own h.next) 0 0), (8, Bo false), (9, a), (10, b), (11, vp), (12, I path.length), (13, I i), (14, c), (22, d)]) ∧ once (path.take i) (path.drop i) = once [] path)
    (fun e s h1 => h1 = H ∧ ∃ i a b c d, s = [(0, .agg [I n, v]), (1, vp), (2, I a0), (3, I b0), (4, .elem (.own h.next) 0 0), (8, Bo false), (9, a), (10, b), (11, vp), (12, I path.length), (13, i), (14, c), (22, d)] ∧ ((e = .ret ∧ once [] path = false) ∨ (e = .exit 0 ∧ once [] path = true)))
    (s := [(0, .agg [I n, v]), (1, vp), (2, I a0), (3, I b0), (4, .elem (.own h.next) 0 0), (8, Bo false), (9, .lit undef), (10, .lit undef), (11, vp), (12, I path.length), (13, I 0), (14, .lit undef), (22, .lit undef)]) (h := H) (by simp) (fun i s h1 hI => hI.1) (by
      rintro i s h1 ⟨hi, rfl, ⟨a, b, c, d, rfl⟩, hf⟩
      unfold L0_i_IsPath
      by_cases hlt : i < path.length
      · have hw2 := wadd (x := i) (y := 1) (by omega) (by omega)
        obtain ⟨vc, hcut, hvc⟩ := hv.cut (X := X) (lo := none) (hi := some (I i)) (a := 0) (b := i) rfl rfl (by omega) hi
        rw [List.drop_zero] at hvc
        rw [List.drop_eq_getElem_cons hlt] at hf
        simp only [once, List.take_append_getElem hlt] at hf
        have hhas := fun h => sl_Contains_int g hvc (by simp; omega) path[i] h
        cases hc : (path.take i).contains path[i] <;> rw [hc] at hf hhas
        · simp only [Bool.not_false, Bool.true_and] at hf
          simp [hv.idx, hlt, hv.get, hcut, hhas, hw2, hf]
          omega
        · simp only [Bool.not_true, Bool.false_and] at hf
          simp [hv.idx, hlt, hv.get, hcut, hhas, ← hf]
      · have : i = path.length := by omega
        subst this
        rw [List.drop_length] at hf
        simp [← hf, once])
  rw [he]
  have hE := i_EndOf g n hs hv bl bp a0
  obtain ⟨rfl, i, a, b, c, d, rfl, ⟨rfl, hk⟩ | ⟨rfl, hk⟩⟩ := hq
  · simp [isPath, hk]
  · cases hc1 : (endOf links path a0 == b0)
    · simp [hrow, hE, hc1, isPath]
    · cases hc2 : ((path.length : Int) == 0)
      · simp [hrow, hE, hc1, hc2, isPath, hk, hv.len]
      · simp [hrow, hE, hc1, hc2, isPath, hk, hv.len]
end Go.Proofs.Ev
end
