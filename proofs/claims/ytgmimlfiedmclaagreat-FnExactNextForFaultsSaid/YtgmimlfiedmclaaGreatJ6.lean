/- The evaluator of the model's code and the functions' specs, part 6. Each part begins with a line that says what it holds. -/
import Derived.Test.YtgmimlfiedmclaaGreatJ5
import Derived.Test.YtgmimlfiedmclaaGreatJ4
import Derived.ProofKit
import Derived.OpenShut
import Derived.Shelf.Sort.Plain
import Derived.Ground.Names2Prog
import Derived.Shelf.Slices.CompactI
import Derived.Shelf.Slices.In.SortNone
import Derived.Test.YtgmimlfiedmclaaGreatProg
section
/- The functions: all sets of a size, in the program. -/
set_option maxHeartbeats 4000000
set_option maxRecDepth 100000
set_option linter.unusedVariables false
set_option linter.unusedSimpArgs false
namespace Go.Proofs.Ev
open Go Go.RowKit
variable {X : FuncId → Option (List AV → Hp → Option (AV × Hp))}

def dfs (cols : Nat) : Nat → List Int → Nat → List (List Int)
  | 0, set, _ => [set]
  | k + 1, set, fr => (List.range' fr (cols - fr)).flatMap fun c : Nat => dfs cols k (set ++ [(c : Int)]) (c + 1)

theorem flatMap_le {α β : Type} (f : α → List β) (b : Nat) : ∀ l : List α, (∀ c ∈ l, (f c).length ≤ b) → (l.flatMap f).length ≤ l.length * b
  | [], _ => by simp
  | c :: l, h => by
    have h1 := h c (List.mem_cons_self ..)
    have h2 := flatMap_le f b l (fun x hx => h x (List.mem_cons_of_mem _ hx))
    simp only [List.flatMap_cons, List.length_append, List.length_cons, Nat.add_mul, Nat.one_mul]
    omega
theorem dfs_len {cols : Nat} (hc : cols ≤ 6) : ∀ (k : Nat) (set : List Int) (fr : Nat), (dfs cols k set fr).length ≤ 6 ^ k
  | 0, _, _ => by simp [dfs]
  | k + 1, set, fr => by
    have := flatMap_le (fun c : Nat => dfs cols k (set ++ [(c : Int)]) (c + 1)) (6 ^ k) (List.range' fr (cols - fr)) (fun c _ => dfs_len hc k _ _)
    rw [List.length_range'] at this
    simp only [dfs]
    refine Nat.le_trans this ?_
    rw [Nat.pow_succ, Nat.mul_comm (6 ^ k)]
    exact Nat.mul_le_mul_right _ (by omega)

abbrev bx (id : Nat) : AV := .elem (.own id) 0 0
structure SB (n : Nat) (cols size : Nat) (vout : AV) (h : Hp) : Prop where
  lo : h.lo ≤ n
  nx : n + 4 ≤ h.next
  c : h.rows n = some ⟨3, 1, [[I cols]]⟩
  s : h.rows (n + 1) = some ⟨3, 1, [[I size]]⟩
  o : h.rows (n + 2) = some ⟨47, 1, [[vout]]⟩
  a : h.rows (n + 3) = some ⟨123, 1, [[.fn 116 [] [bx (n + 1), bx (n + 2), bx n, bx (n + 3)]]]⟩

structure Frm (n : Nat) (h h' : Hp) (v v' : AV) : Prop where
  lo : h'.lo = h.lo
  nx : h.next ≤ h'.next
  rows : ∀ id, n ≤ id → id < h.next → v ≠ .own id → h'.rows id = h.rows id
  val : v' = v ∨ ∃ id, v' = .own id ∧ h.next ≤ id
theorem Frm.rfl' (n : Nat) (h : Hp) (v : AV) : Frm n h h v v := ⟨rfl, Nat.le_refl _, fun _ _ _ _ => rfl, .inl rfl⟩
theorem Frm.trans {n : Nat} {h h1 h2 : Hp} {v v1 v2 : AV} (a : Frm n h h1 v v1) (b : Frm n h1 h2 v1 v2) : Frm n h h2 v v2 := by
  refine ⟨b.lo.trans a.lo, Nat.le_trans a.nx b.nx, fun id hn hid hne => ?_, ?_⟩
  · rw [b.rows id hn (Nat.lt_of_lt_of_le hid a.nx) ?_, a.rows id hn hid hne]
    rcases a.val with rfl | ⟨j, rfl, hj⟩
    · exact hne
    · intro e; cases e; omega
  · have hx := a.nx
    rcases b.val with rfl | ⟨j, rfl, hj⟩
    · exact a.val
    · exact .inr ⟨j, rfl, Nat.le_trans hx hj⟩
theorem Frm.orI {n : Nat} {h h1 : Hp} {v v1 w : AV} {l : List Int} (a : Frm n h h1 v v1) (o : OrI n h w l) (ha : Apart w v) : OrI n h1 w l ∧ Apart w v1 := by
  refine ⟨?_, ?_⟩
  · rcases o with o | ⟨id, rfl, hid, hlt, hr⟩
    · exact .inl o
    · exact .inr ⟨id, rfl, hid, Nat.lt_of_lt_of_le hlt a.nx, by rw [a.rows id hid hlt (ha id rfl)]; exact hr⟩
  · rcases a.val with rfl | ⟨j, rfl, hj⟩
    · exact ha
    · intro id h1 h2
      cases h2
      have := (o.lt h1).2
      omega
theorem Frm.past {n : Nat} {h h1 : Hp} (p : Past h h1 .nilS) (v : AV) : Frm n h h1 v v := ⟨p.lo, p.nx, fun id _ hid _ => p.rows id hid (fun e => by cases e), .inl rfl⟩
theorem SB.past {n cols size : Nat} {vout w : AV} {h h1 : Hp} (s : SB n cols size vout h) (p : Past h h1 w) (hw : ∀ id, w = .own id → n + 4 ≤ id) : SB n cols size vout h1 := by
  have hnx := s.nx
  have hr : ∀ id, id < n + 4 → h1.rows id = h.rows id := fun id hid => p.rows id (by omega) (fun e => by have := hw id e; omega)
  exact ⟨by rw [p.lo]; exact s.lo, Nat.le_trans s.nx p.nx, by rw [hr _ (by omega)]; exact s.c, by rw [hr _ (by omega)]; exact s.s, by rw [hr _ (by omega)]; exact s.o, by rw [hr _ (by omega)]; exact s.a⟩
theorem OrI.same {n : Nat} {h h1 : Hp} {w : AV} {l : List Int} (o : OrI n h w l) (hr : ∀ id, n ≤ id → h1.rows id = h.rows id) (hn : h1.next = h.next) : OrI n h1 w l := by
  rcases o with o | ⟨id, rfl, hid, hlt, hx⟩
  · exact .inl o
  · exact .inr ⟨id, rfl, hid, by rw [hn]; exact hlt, by rw [hr id hid]; exact hx⟩
theorem OrI.weak {n m : Nat} {h : Hp} {w : AV} {l : List Int} (o : OrI n h w l) (hm : m ≤ n) : OrI m h w l := by
  rcases o with o | ⟨id, rfl, hid, hlt, hx⟩
  · exact .inl o
  · exact .inr ⟨id, rfl, by omega, hlt, hx⟩
theorem OutD.same {n : Nat} {ll : List (List Int)} {v : AV} {h h1 : Hp} (o : OutD n ll v h) (hr : ∀ id, n ≤ id → h1.rows id = h.rows id) (hn : h1.next = h.next) (hl : h1.lo = h.lo) : OutD n ll v h1 := by
  obtain ⟨vs, o, hlen, hrs, hap⟩ := o
  refine ⟨vs, ⟨by rw [hl]; exact o.lo, by rw [hn]; exact o.nx, ?_⟩, hlen, fun i h1' h2 => (hrs i h1' h2).same hr hn, hap⟩
  rcases o.val with h | h | ⟨id, hv, hid, hlt, hx⟩
  · exact .inl h
  · exact .inr (.inl h)
  · exact .inr (.inr ⟨id, hv, hid, by rw [hn]; exact hlt, by rw [hr id hid]; exact hx⟩)

theorem i_SetsOf_1 (g : Good X) {cols size n : Nat} (hc : cols ≤ 6) (hsz : size ≤ cols) : ∀ (k : Nat) (set : List Int) (fr : Nat) (vset : AV) (acc : List (List Int)) (vout : AV) (h : Hp),
    SB n cols size vout h → OutD (n + 4) acc vout h → set.length + k = size → fr ≤ cols → OrI (n + 4) h vset set → Apart vset vout → acc.length + (dfs cols k set fr).length < 2 ^ 31 →
    ∃ h' vout', Pc (pk X) 116 [vset, I fr, bx (n + 1), bx (n + 2), bx n, bx (n + 3)] h = some (.tup [], h') ∧ SB n cols size vout' h' ∧ OutD (n + 4) (acc ++ dfs cols k set fr) vout' h' ∧ Frm (n + 4) h h' vout vout'
  | 0, set, fr, vset, acc, vout, h, hS, hO, hk, hfr, hset, hap, hbl => by
    have hlen := hset.len (X := X)
    obtain ⟨v1, h1, hcl, ho1, hp1⟩ := sl_Clone_OrI g hset (Nat.le_trans hS.lo (by omega)) hS.nx (by omega)
    have hS1 := hS.past hp1 (fun id e => by cases e)
    have hO1 := hO.ext hp1
    have hv1 := (ho1.orI).weak hS.nx
    have hav : Apart v1 vout := fun id e1 e2 => by have := (hO.lt e2).2; have := ho1.ge e1; omega
    obtain ⟨v2, h2, happ, hO2, hp2, hf2⟩ := hO1.push (X := X) hv1 hav (by simp [dfs] at hbl; omega) true
    have hS2 := hS1.past hp2 (fun id e => (hO.lt e).1)
    have hlo : h2.lo ≤ n + 2 := Nat.le_trans hS2.lo (by omega)
    have hone : AV.one v2 = true := by obtain ⟨id, rfl, _⟩ := hf2; rfl
    have hcel : AV.cells v2 = [v2] := by obtain ⟨id, rfl, _⟩ := hf2; rfl
    have hrun : ∃ v h', Pc (pk X) 116 [vset, I fr, bx (n + 1), bx (n + 2), bx n, bx (n + 3)] h = some (v, h') ∧ v = .tup [] ∧ h' = { rows := updR h2.rows (n + 2) (some ⟨47, 1, [[v2]]⟩), next := h2.next, lo := h2.lo } := by
      refine r_i_SetsOf_1 g ?_
      unfold cc_i_SetsOf_1
      have e1 : (set.length : Int) = size := by omega
      simp [hlen, hS.s, e1, hS.o, hcl, hS1.o, buildSlice, lits, hv1.one, hv1.cells, happ, stor, hS2.o, hlo, hone, hcel]
    obtain ⟨v, h', hrun, rfl, rfl⟩ := hrun
    refine ⟨_, v2, hrun, ?_, ?_, ?_⟩
    · exact ⟨hS2.lo, hS2.nx, by simp [hS2.c], by simp [hS2.s], by simp, by simp [hS2.a]⟩
    · simp only [dfs]
      exact hO2.same (fun id hid => by have : id ≠ n + 2 := by omega
                                       simp [this]) rfl rfl
    · have f1 : Frm (n + 4) h h1 vout vout := Frm.past hp1 vout
      refine f1.trans ⟨hp2.lo, hp2.nx, fun id hid hlt hne => ?_, .inr hf2⟩
      have : id ≠ n + 2 := by omega
      simp [this]
      exact hp2.rows id hlt hne
  | k + 1, set, fr, vset, acc, vout, h, hS, hO, hk, hfr, hset, hap, hbl => by
    have hlen := hset.len (X := X)
    have hne : ¬ (set.length : Int) = size := by omega
    have hneb : ((set.length : Int) == size) = false := by simpa using hne
    simp only [dfs] at hbl ⊢
    obtain ⟨e, s', h', he, hq⟩ := for_rule (b := evC (pk X).T (Pc (pk X)) L0_i_SetsOf_1) (cols - fr)
      (fun i s h1 => i ≤ cols - fr ∧ ∃ j21 w, s = [(0, vset), (1, I fr), (2, bx (n + 1)), (3, bx (n + 2)), (4, bx n), (5, bx (n + 3)), (8, I ((fr : Int) + i)), (12, Bo false), (21, j21)] ∧ SB n cols size w h1 ∧ OutD (n + 4) (acc ++ (List.range' fr i).flatMap fun c : Nat => dfs cols k (set ++ [(c : Int)]) (c + 1)) w h1 ∧ Frm (n + 4) h h1 vout w)
      (fun e s h1 => ∃ ji j21 w, s = [(0, vset), (1, I fr), (2, bx (n + 1)), (3, bx (n + 2)), (4, bx n), (5, bx (n + 3)), (8, ji), (12, Bo false), (21, j21)] ∧ e = .exit 0 ∧ SB n cols size w h1 ∧ OutD (n + 4) (acc ++ (List.range' fr (cols - fr)).flatMap fun c : Nat => dfs cols k (set ++ [(c : Int)]) (c + 1)) w h1 ∧ Frm (n + 4) h h1 vout w)
      (s := [(0, vset), (1, I fr), (2, bx (n + 1)), (3, bx (n + 2)), (4, bx n), (5, bx (n + 3)), (8, I fr), (12, Bo false), (21, .lit undef)]) (h := h) ⟨Nat.zero_le _, .lit undef, vout, by simp, hS, by simpa using hO, Frm.rfl' _ _ _⟩ (fun i s h1 hI => hI.1) (by
        rintro i s h1 ⟨hi, j21, w, rfl, hS1, hO1, hF1⟩
        unfold L0_i_SetsOf_1
        by_cases hlt : i < cols - fr
        · have e1 : (fr : Int) + i < cols := by omega
          have hw2 := wadd (x := (fr : Int) + i) (y := 1) (by omega) (by omega)
          obtain ⟨hset1, hap1⟩ := hF1.orI hset hap
          obtain ⟨v2, h2, hcl, ho2, hp2⟩ := sl_Clone_OrI g hset1 (Nat.le_trans hS1.lo (by omega)) hS1.nx (by omega)
          obtain ⟨v3, h3, happ, ho3, hp3, hf3⟩ := ho2.push (X := X) 25 (by simp) t_3 (by simp) (x := true) (e := [I ((fr : Int) + i)]) (by simp [rowOk]) (by simp; omega)
          have hp23 := hp2.trans hp3 (fun id e => ho2.ge e)
          have hS2 := hS1.past hp2 (fun id e => by cases e)
          have hS3 := hS1.past hp23 (fun id e => by cases e)
          have hO3 := hO1.ext hp23
          have ho3' : Out h1.next 3 1 ((set ++ [((fr + i : Nat) : Int)]).map fun n => [I n]) v3 h3 := by simpa using ho3
          have hv3 := ho3'.orI.weak hS1.nx
          have hav : Apart v3 w := fun id e1 e2 => by have := (hO1.lt e2).2; have := ho3.ge e1; omega
          have hr1 : List.range' fr (i + 1) = List.range' fr i ++ [fr + i] := by rw [List.range'_concat]; simp
          have hr2 : List.range' fr (cols - fr) = List.range' fr (i + 1) ++ List.range' (fr + (i + 1)) (cols - fr - (i + 1)) := by
            rw [List.range'_append_1]
            congr 1
            omega
          rw [hr2, hr1] at hbl
          simp only [List.flatMap_append, List.flatMap_cons, List.flatMap_nil, List.length_append, List.append_nil] at hbl
          obtain ⟨h4, w4, hrec, hS4, hO4, hF4⟩ := i_SetsOf_1 g hc hsz k (set ++ [((fr + i : Nat) : Int)]) (fr + i + 1) v3 _ w h3 hS3 hO3 (by simp; omega) (by omega) hv3 hav (by simp only [List.length_append]; omega)
          have hrec' : Pc (pk X) 116 [v3, I ((fr : Int) + i + 1), bx (n + 1), bx (n + 2), bx n, bx (n + 3)] h3 = some (.tup [], h4) := by
            have e2 : ((fr + i + 1 : Nat) : Int) = (fr : Int) + i + 1 := by omega
            rw [e2] at hrec
            exact hrec
          simp [hS1.c, hS1.a, e1, hcl, hS2.a, buildSlice, lits, happ, hS3.a, hw2, hrec']
          refine ⟨by omega, by omega, w4, hS4, ?_, (hF1.trans (Frm.past hp23 w)).trans hF4⟩
          rw [hr1]
          simpa using hO4
        · have e0 : i = cols - fr := by omega
          subst e0
          have e1 : ¬ (fr : Int) + ((cols - fr : Nat) : Int) < cols := by omega
          simp [hS1.c, e1]
          exact ⟨w, hS1, hO1, hF1⟩)
    -- he, hq: ji, j21, w, rfl, fin
    obtain ⟨ji, j21, w, rfl, rfl, hS1, hO1, hF1⟩ := hq
    have hrun : ∃ v h'', Pc (pk X) 116 [vset, I fr, bx (n + 1), bx (n + 2), bx n, bx (n + 3)] h = some (v, h'') ∧ v = .tup [] ∧ h'' = h' := by
      refine r_i_SetsOf_1 g ?_
      unfold cc_i_SetsOf_1
      simp [hlen, hS.s, hneb, he]
    obtain ⟨v, h'', hrun, rfl, rfl⟩ := hrun
    exact ⟨_, w, hrun, hS1, hO1, hF1⟩
end Go.Proofs.Ev
end
section
/- The functions: all sets of a size. -/
set_option maxHeartbeats 4000000
set_option maxRecDepth 100000
set_option linter.unusedVariables false
set_option linter.unusedSimpArgs false
namespace Go.Proofs.Ev
open Go Go.RowKit
variable {X : FuncId → Option (List AV → Hp → Option (AV × Hp))}

def setsL (cols size : Int) : List (List Int) := if ((decide (0 ≤ cols) && decide (cols ≤ 6)) && (decide (0 ≤ size) && decide (size ≤ cols))) = true then dfs cols.toNat size.toNat [] 0 else []

theorem setsL_len (cols size : Int) : (setsL cols size).length ≤ 6 ^ 6 := by
  unfold setsL
  split
  · rename_i h
    simp only [Bool.and_eq_true, decide_eq_true_eq] at h
    exact Nat.le_trans (dfs_len (by omega) _ _ _) (Nat.pow_le_pow_right (by omega) (by omega))
  · simp

theorem i_SetsOf (g : Good X) (cols size : Int) (h : Hp) : ∃ v', Pc (pk X) 93 [I cols, I size] h = some (v', h) ∧ SVV v' (setsL cols size) := by
  have f1 := i_InRange g cols 0 6
  have f2 := i_InRange g size 0 cols
  generalize h1e : (decide (0 ≤ cols) && decide (cols ≤ 6)) = c1 at f1
  cases c1
  · refine ⟨.nilS, r_i_SetsOf g ?_, by simp only [setsL, h1e]; exact ⟨[], .inl ⟨rfl, rfl⟩, Rows.nil⟩⟩
    unfold cc_i_SetsOf
    simp [box, addRow, f1]
  generalize h2e : (decide (0 ≤ size) && decide (size ≤ cols)) = c2 at f2
  cases c2
  · refine ⟨.nilS, r_i_SetsOf g ?_, by simp only [setsL, h1e, h2e]; exact ⟨[], .inl ⟨rfl, rfl⟩, Rows.nil⟩⟩
    unfold cc_i_SetsOf
    simp [box, addRow, f1, f2]
  have e : setsL cols size = dfs cols.toNat size.toNat [] 0 := by simp only [setsL, h1e, h2e, Bool.and_self, if_true]
  rw [e]
  simp only [Bool.and_eq_true, decide_eq_true_eq] at h1e h2e
  obtain ⟨C, rfl⟩ := Int.eq_ofNat_of_zero_le h1e.1
  obtain ⟨S, rfl⟩ := Int.eq_ofNat_of_zero_le h2e.1
  have hb := dfs_len (cols := C) (by omega) S [] 0
  have hb2 : 6 ^ S ≤ 6 ^ 6 := Nat.pow_le_pow_right (by omega) (by omega)
  obtain ⟨h', vout, hrun, hS, hO, hF⟩ := i_SetsOf_1 g (cols := C) (size := S) (n := h.next) (by omega) (by omega) S [] 0 (.imm true []) [] .nilS
    { rows := updR (updR (updR (updR h.rows h.next (some ⟨3, 1, [[I C]]⟩)) (h.next + 1) (some ⟨3, 1, [[I S]]⟩)) (h.next + 2) (some ⟨47, 1, [[.nilS]]⟩)) (h.next + 3) (some ⟨123, 1, [[.fn 116 [] [bx (h.next + 1), bx (h.next + 2), bx h.next, bx (h.next + 3)]]]⟩), next := h.next + 4, lo := h.next }
    ⟨Nat.le_refl _, Nat.le_refl _, by simp, by simp, by simp, by simp⟩ (OutD.nil (by simp) (by simp)) (by simp) (by omega) (.inl (.inr ⟨true, rfl⟩)) (fun id e => by cases e) (by simp; omega)
  obtain ⟨v', hz, hv⟩ := hO.frz (n := h.next) (by omega) 33
  refine ⟨v', r_i_SetsOf g ?_, by simpa using hv⟩
  unfold cc_i_SetsOf
  have hrun : (Pc (pk X)).run 116 [.imm true [], I 0, bx (h.next + 1), bx (h.next + 2), bx h.next, bx (h.next + 3)] _ = _ := hrun
  simp [box, addRow, f1, f2, alloc, stor, buildSlice, lits, hrun, hS.o, hz, Nat.add_assoc]

def start (r : List Int) : Nat := match r.getLast? with
  | some x => (x + 1).toNat
  | none => 0
def extL (cols : Nat) (r : List Int) : List (List Int) := (List.range' (start r) (cols - start r)).map fun k : Nat => r ++ [(k : Int)]
def lev (cols : Nat) : Nat → List (List Int)
  | 0 => [[]]
  | n + 1 => (lev cols n).flatMap (extL cols)

theorem lev_len {cols : Nat} (hc : cols ≤ 6) : ∀ n, (lev cols n).length ≤ 6 ^ n
  | 0 => by simp [lev]
  | n + 1 => by
    have ih := lev_len hc n
    have := flatMap_le (extL cols) 6 (lev cols n) (fun r _ => by simp only [extL, List.length_map, List.length_range']; omega)
    simp only [lev]
    rw [Nat.pow_succ]
    exact Nat.le_trans this (Nat.mul_le_mul_right _ ih)
theorem lev_mem (cols : Nat) : ∀ n, ∀ r ∈ lev cols n, r.length = n ∧ ∀ x ∈ r, 0 ≤ x ∧ x < cols
  | 0, r, h => by
    simp only [lev, List.mem_singleton] at h
    subst h
    exact ⟨rfl, fun x hx => by cases hx⟩
  | n + 1, r, h => by
    simp only [lev, List.mem_flatMap] at h
    obtain ⟨q, hq, hr⟩ := h
    obtain ⟨hl, hx⟩ := lev_mem cols n q hq
    unfold extL at hr
    obtain ⟨k, hk, rfl⟩ := List.mem_map.1 hr
    have := List.mem_range'_1.1 hk
    refine ⟨by simp [hl], fun x hm => ?_⟩
    rcases List.mem_append.1 hm with hm | hm
    · exact hx x hm
    · have := List.mem_singleton.1 hm
      omega
theorem lev_dfs : ∀ cols < 7, ∀ size < cols + 1, lev cols size = dfs cols size [] 0 := by decide +kernel

theorem Past.nil {h1 h2 : Hp} {v : AV} (p : Past h1 h2 v) (hv : ∀ id, v ≠ .own id) : Past h1 h2 .nilS := ⟨p.lo, p.nx, fun id hid _ => p.rows id hid (hv id)⟩
theorem OutD.weak {n m : Nat} {ll : List (List Int)} {v : AV} {h : Hp} (o : OutD n ll v h) (hm : m ≤ n) (hl : h.lo ≤ m) : OutD m ll v h := by
  obtain ⟨vs, o, hlen, hrs, hap⟩ := o
  have hx := o.nx
  refine ⟨vs, ⟨hl, Nat.le_trans hm hx, ?_⟩, hlen, fun i h1' h2 => (hrs i h1' h2).weak hm, hap⟩
  rcases o.val with h | h | ⟨id, hv, hid, hlt, hx⟩
  · exact .inl h
  · exact .inr (.inl h)
  · exact .inr (.inr ⟨id, hv, Nat.le_trans hm hid, hlt, hx⟩)

/-- One element: a row with a number behind it. -/
theorem ext_row (g : Good X) {n0 : Nat} {h1 : Hp} {r : AV} {l : List Int} (o : OrI n0 h1 r l) (lo : h1.lo ≤ h1.next) (k : Int) (bl : l.length < 2 ^ 30) (x : Bool) :
    ∃ v2 h2 v3 h3, app (pk X).T h1 25 (.imm true []) r = some (v2, h2) ∧ app (pk X).T h2 25 v2 (.imm x [[I k]]) = some (v3, h3) ∧ OrI h1.next h3 v3 (l ++ [k]) ∧ Past h1 h3 .nilS ∧ ∃ id, v3 = .own id ∧ h1.next ≤ id := by
  have e0 : Out h1.next 3 1 [] (.imm true []) h1 := ⟨lo, Nat.le_refl _, .inr (.inl ⟨rfl, rfl⟩)⟩
  obtain ⟨v2, h2, ha, ho, hp, hf⟩ := e0.append (X := X) 25 (by simp) t_3 (by simp) o.get (by exact row_ok l) (by simp) (by simp; omega)
  obtain ⟨v3, h3, ha3, ho3, hp3, hf3⟩ := ho.push (X := X) 25 (by simp) t_3 (by simp) (x := x) (e := [I k]) (by simp [rowOk]) (by simp; omega)
  refine ⟨v2, h2, v3, h3, ha, ha3, ?_, (hp.nil (by simp)).trans hp3 (fun id e => ho.ge e), ?_⟩
  · have ho3' : Out h1.next 3 1 ((l ++ [k]).map fun n => [I n]) v3 h3 := by simpa using ho3
    exact ho3'.orI
  · obtain ⟨id, rfl, hid⟩ := hf3
    exact ⟨id, rfl, Nat.le_trans hp.nx hid⟩
end Go.Proofs.Ev
end
section
/- The functions: all sets of a size, in the reference; all small sets. -/
set_option maxHeartbeats 4000000
set_option maxRecDepth 100000
set_option linter.unusedVariables false
set_option linter.unusedSimpArgs false
namespace Go.Proofs.Ev
open Go Go.RowKit
variable {X : FuncId → Option (List AV → Hp → Option (AV × Hp))}

theorem OrI.idxi {n0 : Nat} {h1 : Hp} {v : AV} {l : List Int} (o : OrI n0 h1 v l) {k : Int} (h0 : 0 ≤ k) (hk : k < l.length) : idxAddr (pk X).T h1 25 v (I k) = some (.elem v k.toNat 0) := by
  obtain ⟨n, rfl⟩ := Int.eq_ofNat_of_zero_le h0
  exact o.idx (by omega)

theorem s_SetsOf (g : Good X) (cols size : Int) (h : Hp) : ∃ v', Pc (pk X) 91 [I cols, I size] h = some (v', h) ∧ SVV v' (setsL cols size) := by
  have f1 := s_l1In g cols 0 6
  have f2 := s_l1In g size 0 cols
  generalize h1e : (decide (0 ≤ cols) && decide (cols ≤ 6)) = c1 at f1
  cases c1
  · refine ⟨.imm true [], r_s_SetsOf g ?_, by simp only [setsL, h1e]; exact ⟨[], .inr ⟨true, rfl⟩, Rows.nil⟩⟩
    unfold cc_s_SetsOf
    simp [f1, buildSlice, lits]
  generalize h2e : (decide (0 ≤ size) && decide (size ≤ cols)) = c2 at f2
  cases c2
  · refine ⟨.imm true [], r_s_SetsOf g ?_, by simp only [setsL, h1e, h2e]; exact ⟨[], .inr ⟨true, rfl⟩, Rows.nil⟩⟩
    unfold cc_s_SetsOf
    simp [f1, f2, buildSlice, lits]
  have e : setsL cols size = dfs cols.toNat size.toNat [] 0 := by simp only [setsL, h1e, h2e, Bool.and_self, if_true]
  rw [e]
  simp only [Bool.and_eq_true, decide_eq_true_eq] at h1e h2e
  obtain ⟨C, rfl⟩ := Int.eq_ofNat_of_zero_le h1e.1
  obtain ⟨S, rfl⟩ := Int.eq_ofNat_of_zero_le h2e.1
  have e : dfs ((C : Nat) : Int).toNat ((S : Nat) : Int).toNat [] 0 = lev C S := (lev_dfs C (by omega) S (by omega)).symm
  rw [e]
  have hb6 : ∀ n, n ≤ 6 → (lev C n).length ≤ 6 ^ 6 := fun n hn => Nat.le_trans (lev_len (by omega) n) (Nat.pow_le_pow_right (by omega) hn)
  obtain ⟨v1, h1, ha1, ho1, hp1, hf1⟩ := (OutD.emp (n0 := h.next) (h1 := { h with lo := h.next }) (Nat.le_refl _) (Nat.le_refl _)).push (X := X) (r := .imm true []) (l := []) (.inl (.inr ⟨true, rfl⟩)) (Apart.imm _ _ _) (by simp) true
  have hlo1 : h1.lo = h.next := hp1.lo
  obtain ⟨e, s', h', he, hq⟩ := for_rule (b := evC (pk X).T (Pc (pk X)) L2_s_SetsOf) S
    (fun n s hA => n ≤ S ∧ ∃ out j7 j8 j9 j10 j28 j35 j43 j60, s = [(0, I C), (1, I S), (4, .nilS), (5, out), (6, I n), (7, j7), (8, j8), (9, j9), (10, j10), (20, Bo false), (28, j28), (35, j35), (43, j43), (60, j60)] ∧ OutD h.next (lev C n) out hA ∧ hA.lo = h.next)
    (fun e s hA => ∃ ji out j7 j8 j9 j10 j28 j35 j43 j60, s = [(0, I C), (1, I S), (4, .nilS), (5, out), (6, ji), (7, j7), (8, j8), (9, j9), (10, j10), (20, Bo false), (28, j28), (35, j35), (43, j43), (60, j60)] ∧ e = .exit 0 ∧ OutD h.next (lev C S) out hA)
    (s := [(0, I C), (1, I S), (4, .nilS), (5, v1), (6, I 0), (7, .lit undef), (8, .lit undef), (9, .lit undef), (10, .lit undef), (20, Bo false), (28, .lit undef), (35, .lit undef), (43, .lit undef), (60, .lit undef)]) (h := h1) ⟨Nat.zero_le _, _, _, _, _, _, _, _, _, _, rfl, ⟨ho1, hlo1⟩⟩ (fun _ _ _ hI => hI.1) (by
      rintro n s hA ⟨hn, out, j7, j8, j9, j10, j28, j35, j43, j60, rfl, hoA, hloA⟩
      unfold L2_s_SetsOf
      by_cases hlt : n < S
      case neg =>
        have : n = S := by omega
        subst this
        simp
        exact ⟨_, _, ⟨rfl, rfl⟩, hoA⟩
      have hw2 := wadd (x := n) (y := 1) (by omega) (by omega)
      have hbn := hb6 n (by omega)
      have hbn1 := hb6 (n + 1) (by omega)
      have hlv : lev C (n + 1) = (lev C n).flatMap (extL C) := rfl
      have hnxA := hoA.nx
      have hlnA : hA.lo ≤ hA.next := by omega
      obtain ⟨e1, s1', h1', he1, hq1⟩ := for_rule (b := evC (pk X).T (Pc (pk X)) L1_s_SetsOf) ((lev C n).length)
        (fun i s hB => i ≤ (lev C n).length ∧ ∃ next j9 j10 j35 j43 j60, s = [(0, I C), (1, I S), (4, .nilS), (5, out), (6, I n), (7, next), (8, I i), (9, j9), (10, j10), (20, Bo false), (28, Bo true), (35, j35), (43, j43), (60, j60)] ∧ OutD hA.next (((lev C n).take i).flatMap (extL C)) next hB ∧ Past hA hB .nilS)
        (fun e s hB => ∃ ji next j9 j10 j35 j43 j60, s = [(0, I C), (1, I S), (4, .nilS), (5, out), (6, I n), (7, next), (8, ji), (9, j9), (10, j10), (20, Bo false), (28, Bo true), (35, j35), (43, j43), (60, j60)] ∧ e = .exit 2 ∧ OutD hA.next (lev C (n + 1)) next hB ∧ Past hA hB .nilS)
        (s := [(0, I C), (1, I S), (4, .nilS), (5, out), (6, I n), (7, .imm true []), (8, I 0), (9, j9), (10, j10), (20, Bo false), (28, Bo true), (35, j35), (43, j43), (60, j60)]) (h := hA) ⟨Nat.zero_le _, _, _, _, _, _, _, rfl, ⟨OutD.emp hlnA (Nat.le_refl _), Past.rfl' _ _⟩⟩ (fun _ _ _ hI => hI.1) (by
          rintro i s hB ⟨hi, next, j9, j10, j35, j43, j60, rfl, hoB, hpB⟩
          unfold L1_s_SetsOf
          have hoA1 := hoA.ext hpB
          have hlenA := hoA1.len (X := X)
          by_cases hlt1 : i < (lev C n).length
          case neg =>
            have : i = (lev C n).length := by omega
            subst this
            rw [List.take_length] at hoB
            simp [hlenA]
            exact ⟨_, _, ⟨rfl, rfl⟩, hoB, hpB⟩
          have hw3 := wadd (x := i) (y := 1) (by omega) (by omega)
          obtain ⟨r, hi1, hl1, hr1, har⟩ := hoA1.at_ (X := X) hlt1
          have hmem := lev_mem C n _ (List.getElem_mem hlt1)
          have hget := hr1.get
          have hrl := hr1.len (X := X)
          have htk : (lev C n).take (i + 1) = (lev C n).take i ++ [(lev C n)[i]] := List.take_succ_eq_append_getElem hlt1
          have hext : (((lev C n).take (i + 1)).flatMap (extL C)).length ≤ 6 ^ 6 := by
            have h0 : (lev C (n + 1)).length = (((lev C n).take (i + 1)).flatMap (extL C)).length + (((lev C n).drop (i + 1)).flatMap (extL C)).length := by
              rw [hlv, ← List.length_append, ← List.flatMap_append, List.take_append_drop]
            omega
          rw [htk, List.flatMap_append, List.flatMap_cons, List.flatMap_nil, List.append_nil, List.length_append] at hext
          generalize hrow : (lev C n)[i] = row at *
          have hst : start row ≤ C := by
            unfold start
            cases hg : row.getLast? with
            | none => simp
            | some x =>
              have := hmem.2 x (List.mem_of_getLast? hg)
              simp only
              omega
          have lp : ∀ c : Bool, ∃ ji j60' next' hC, LoopM (evC (pk X).T (Pc (pk X)) L0_s_SetsOf) [(0, I C), (1, I S), (4, .nilS), (5, out), (6, I n), (7, next), (8, I i), (9, I (start row)), (10, I (start row)), (20, Bo false), (28, Bo true), (35, Bo true), (43, Bo c), (60, j60)] hB = some (.exit 4, [(0, I C), (1, I S), (4, .nilS), (5, out), (6, I n), (7, next'), (8, I i), (9, I (start row)), (10, ji), (20, Bo false), (28, Bo true), (35, Bo true), (43, Bo c), (60, j60')], hC) ∧
              OutD hA.next (((lev C n).take i).flatMap (extL C) ++ extL C row) next' hC ∧ Past hA hC .nilS := by
            intro c
            obtain ⟨e0, s0', h0', he0, hq0⟩ := for_rule (b := evC (pk X).T (Pc (pk X)) L0_s_SetsOf) (C - start row)
              (fun k s hC => k ≤ C - start row ∧ ∃ nx2 j60, s = [(0, I C), (1, I S), (4, .nilS), (5, out), (6, I n), (7, nx2), (8, I i), (9, I (start row)), (10, I ((start row : Int) + k)), (20, Bo false), (28, Bo true), (35, Bo true), (43, Bo c), (60, j60)] ∧ OutD hA.next (((lev C n).take i).flatMap (extL C) ++ (List.range' (start row) k).map fun c : Nat => row ++ [(c : Int)]) nx2 hC ∧ Past hA hC .nilS)
              (fun e s hC => ∃ ji nx2 j60, s = [(0, I C), (1, I S), (4, .nilS), (5, out), (6, I n), (7, nx2), (8, I i), (9, I (start row)), (10, ji), (20, Bo false), (28, Bo true), (35, Bo true), (43, Bo c), (60, j60)] ∧ e = .exit 4 ∧ OutD hA.next (((lev C n).take i).flatMap (extL C) ++ extL C row) nx2 hC ∧ Past hA hC .nilS)
              (s := [(0, I C), (1, I S), (4, .nilS), (5, out), (6, I n), (7, next), (8, I i), (9, I (start row)), (10, I (start row)), (20, Bo false), (28, Bo true), (35, Bo true), (43, Bo c), (60, j60)]) (h := hB) ⟨Nat.zero_le _, next, j60, by simp, by simpa using hoB, hpB⟩ (fun _ _ _ hI => hI.1) (by
                rintro k s hC ⟨hk, nx2, j60, rfl, hoC, hpC⟩
                unfold L0_s_SetsOf
                by_cases hlt2 : k < C - start row
                case neg =>
                  have e0 : k = C - start row := by omega
                  subst e0
                  have e1 : ¬ (start row : Int) + ((C - start row : Nat) : Int) < C := by omega
                  simp [e1]
                  exact ⟨_, _, ⟨rfl, rfl⟩, hoC, hpC⟩
                have e1 : (start row : Int) + k < C := by omega
                have hw4 := wadd (x := (start row : Int) + k) (y := 1) (by omega) (by omega)
                obtain ⟨r2, hi2, hl2, hr2, har2⟩ := (hoA.ext hpC).at_ (X := X) hlt1
                rw [hrow] at hr2
                have hlC : hC.lo ≤ hC.next := by rw [hpC.lo]; exact Nat.le_trans hlnA hpC.nx
                obtain ⟨v2, h2, v3, h3, ha2, ha3, ho3, hp3, hf3⟩ := ext_row g hr2 hlC ((start row : Int) + k) (by omega) true
                have hoC3 := hoC.ext hp3
                have hav : Apart v3 nx2 := fun id e1 e2 => by
                  obtain ⟨j, rfl, hj⟩ := hf3
                  cases e1
                  have := (hoC.lt e2).2
                  omega
                obtain ⟨v4, h4, ha4, ho4, hp4, hf4⟩ := hoC3.push (X := X) (ho3.weak hoC.nx) hav (by
                  simp only [List.length_append, List.length_map, List.length_range', extL] at hext ⊢
                  omega) true
                simp [e1, buildSlice, lits, hi2, hl2, ha2, ha3, ho3.one, ho3.cells, ha4, hw4]
                refine ⟨by omega, _, ⟨rfl, by omega⟩, ?_, ?_⟩
                · rw [List.range'_concat, List.map_append, ← List.append_assoc]
                  simpa using ho4
                · exact (hpC.trans hp3 (fun id e => by cases e)).trans hp4 (fun id e => (hoC.lt e).1))
            -- he0, hq0: ji, nx2, j60, rfl, fin
            obtain ⟨ji, nx2, j60', rfl, rfl, hoC, hpC⟩ := hq0
            exact ⟨_, _, _, _, he0, hoC, hpC⟩
          by_cases h0 : 0 < row.length
          · obtain ⟨ji, j60', next', hC, hL, hoC, hpC⟩ := lp true
            have hrl2 := OrI.idxi (X := X) hr1 (k := (row.length : Int) - 1) (by omega) (by omega)
            have hw5 := wsub (x := row.length) (y := 1) (by omega) (by omega)
            have hki : ((row.length : Int) - 1).toNat = row.length - 1 := by omega
            have hkl : row.length - 1 < row.length := by omega
            rw [hki] at hrl2
            have hx := hmem.2 _ (List.getElem_mem hkl)
            have hstv : (start row : Int) = row[row.length - 1] + 1 := by
              have : row.getLast? = some row[row.length - 1] := by rw [List.getLast?_eq_getElem?, List.getElem?_eq_getElem hkl]
              unfold start
              rw [this]
              simp only
              omega
            have hw6 := wadd (x := row[row.length - 1]) (y := 1) (by omega) (by omega)
            rw [hstv] at hL
            simp [hlenA, hlt1, hi1, hl1, hrl, h0, hw5, hrl2, hget, hkl, hw6, hL, hw3]
            refine ⟨by omega, ?_, hpC⟩
            rw [htk, List.flatMap_append, List.flatMap_cons, List.flatMap_nil, List.append_nil]
            exact hoC
          · obtain ⟨ji, j60', next', hC, hL, hoC, hpC⟩ := lp false
            have he0 : row = [] := by cases row with | nil => rfl | cons _ _ => simp at h0
            have hstv : (start row : Int) = 0 := by subst he0; rfl
            rw [hstv] at hL
            have h0' : row.length = 0 := by omega
            simp [hlenA, hlt1, hi1, hl1, hrl, h0', hL, hw3]
            refine ⟨by omega, ?_, hpC⟩
            rw [htk, List.flatMap_append, List.flatMap_cons, List.flatMap_nil, List.append_nil]
            exact hoC)
      -- he1, hq1: ji, next, j9, j10, j35, j43, j60, rfl, fin
      obtain ⟨ji, next, j9, j10, j35, j43, j60, rfl, rfl, hoB, hpB⟩ := hq1
      simp [hlt, buildSlice, lits, he1, hw2]
      exact ⟨by omega, hoB.weak hoA.nx (by rw [hpB.lo]; omega), by rw [hpB.lo]; exact hloA⟩)
  -- he, hq: ji, out, j7, j8, j9, j10, j28, j35, j43, j60, rfl, fin
  obtain ⟨ji, out, j7, j8, j9, j10, j28, j35, j43, j60, rfl, rfl, ho⟩ := hq
  obtain ⟨v', hz, hv⟩ := ho.frz (n := h.next) (Nat.le_refl _) 33
  refine ⟨v', r_s_SetsOf g ?_, hv⟩
  unfold cc_s_SetsOf
  simp [f1, f2, buildSlice, lits, ha1, he, hz]
end Go.Proofs.Ev
end
section
/- The functions: the worst that is left. -/
set_option linter.unusedVariables false
set_option linter.unusedSimpArgs false
namespace Go.Proofs.Ev
open Go Go.RowKit
variable {X : FuncId → Option (List AV → Hp → Option (AV × Hp))}

def cnt (row : List Int) : List (List Int) → Int
  | [] => 0
  | s :: gs => (if failsWith row s = true then 1 else 0) + cnt row gs
theorem cnt_le (row : List Int) : ∀ gs, 0 ≤ cnt row gs ∧ cnt row gs ≤ gs.length
  | [] => by simp [cnt]
  | s :: gs => by
    have := cnt_le row gs
    simp only [cnt, List.length_cons]
    split <;> omega
def worst (gs : List (List Int)) (row : List Int) : Int := if (gs.length : Int) - cnt row gs > cnt row gs then gs.length - cnt row gs else cnt row gs

theorem s_WorstLeft (g : Good X) {vg vr : AV} {gs : List (List Int)} {row : List Int} (hg : SVV vg gs) (hr : SVI vr row) (b1 : gs.length ≤ 2 ^ 40) (b2 : ∀ r ∈ gs, r.length ≤ 2 ^ 40) (b3 : row.length ≤ 2 ^ 40) (h : Hp) :
    Pc (pk X) 87 [vg, vr] h = some (I (worst gs row), h) := by
  refine r_s_WorstLeft g ?_
  unfold cc_s_WorstLeft
  obtain ⟨vs, hs, hv⟩ := hg
  have hl1 : ∀ h, lenA (pk X).T h 47 vg = some (I gs.length) := fun h => by
    have := hs.len (X := X) 47 h (by simp [slT])
    rw [List.length_map, hv.1] at this
    exact this
  simp
  obtain ⟨e, s', h', he, hq⟩ := for_rule (b := evC (pk X).T (Pc (pk X)) L0_s_WorstLeft) gs.length
    (fun i s h1 => i ≤ gs.length ∧ h1 = { h with lo := h.next } ∧ ∃ k a b, s = [(0, vg), (1, vr), (4, I 0), (5, I k), (6, I i), (10, a), (18, b)] ∧ 0 ≤ k ∧ k ≤ i ∧ k + cnt row (gs.drop i) = cnt row gs)
    (fun e s h1 => e = .exit 0 ∧ h1 = { h with lo := h.next } ∧ ∃ i a b, s = [(0, vg), (1, vr), (4, I 0), (5, I (cnt row gs)), (6, i), (10, a), (18, b)])
    (s := [(0, vg), (1, vr), (4, I 0), (5, I 0), (6, I 0), (10, .lit undef), (18, .lit undef)]) (h := { h with lo := h.next }) ⟨by omega, rfl, 0, _, _, rfl, by omega, by omega, by simp⟩ (fun i s h1 hI => hI.1) (by
      rintro i s h1 ⟨hi, rfl, k, a, b, rfl, hk0, hk1, hf⟩
      unfold L0_s_WorstLeft
      by_cases hlt : i < gs.length
      · have hlt3 : i < vs.length := by have := hv.1; omega
        have hw2 := wadd (x := i) (y := 1) (by omega) (by omega)
        have hw3 := wadd (x := k) (y := 1) (by omega) (by omega)
        rw [List.drop_eq_getElem_cons hlt] at hf
        simp only [cnt] at hf
        have hat := hs.at_ (X := X) 47 (by simp) t_25 (k := i) (by simpa using hlt3) (by simp)
        have hF := fun h => s_FailsWith g hr (hv.2 i hlt3 hlt) h (b2 gs[i] (List.getElem_mem hlt)) b3
        cases hk : failsWith row gs[i] <;> rw [hk] at hf hF
        · simp only [Bool.false_eq_true, if_false] at hf
          simp [hl1, hat, hs.get, hlt, hlt3, hF, hw2]
          omega
        · simp only [if_true] at hf
          simp [hl1, hat, hs.get, hlt, hlt3, hF, hw2, hw3]
          omega
      · have : i = gs.length := by omega
        subst this
        rw [List.drop_length] at hf
        simp only [cnt] at hf
        simp [hl1]
        omega)
  rw [he]
  obtain ⟨rfl, rfl, i, a, b, rfl⟩ := hq
  have hb := cnt_le row gs
  have hw := wsub (x := gs.length) (y := cnt row gs) (by omega) (by omega)
  simp [hl1, hw, s_Max g, worst]
end Go.Proofs.Ev
end
section
/- The functions: the best row. -/
set_option linter.unusedVariables false
set_option linter.unusedSimpArgs false
namespace Go.Proofs.Ev
open Go Go.RowKit
variable {X : FuncId → Option (List AV → Hp → Option (AV × Hp))}

def bestF (gs : List (List Int)) : Int → Int → Int → List (List Int) → Int
  | best, _, _, [] => best
  | best, least, i, r :: m => if worst gs r < least then bestF gs i (worst gs r) (i + 1) m else bestF gs best least (i + 1) m
def bestRow (gs m : List (List Int)) : Int := bestF gs (-1) gs.length 0 m

theorem s_BestRow (g : Good X) {vg vm : AV} {gs m : List (List Int)} (hg : SVV vg gs) (hm : SVV vm m) (b1 : gs.length ≤ 2 ^ 40) (b2 : ∀ r ∈ gs, r.length ≤ 2 ^ 40) (b3 : ∀ r ∈ m, r.length ≤ 2 ^ 40) (b4 : m.length ≤ 2 ^ 40) (h : Hp) :
    Pc (pk X) 42 [vg, vm] h = some (I (bestRow gs m), h) := by
  refine r_s_BestRow g ?_
  unfold cc_s_BestRow
  have hW := fun {row : List Int} {vr : AV} (hr : SVI vr row) b h => s_WorstLeft g hg hr b1 b2 b h
  have lenV : ∀ {v : AV} {ll : List (List Int)}, SVV v ll → ∀ h, lenA (pk X).T h 47 v = some (I ll.length) := fun {v ll} ⟨vs, hs, hv⟩ h => by
    have := hs.len (X := X) 47 h (by simp [slT])
    rw [List.length_map, hv.1] at this
    exact this
  have hl1 := lenV hg
  have hl2 := lenV hm
  obtain ⟨vs, hs, hv⟩ := hm
  simp [hl1]
  obtain ⟨e, s', h', he, hq⟩ := for_rule (b := evC (pk X).T (Pc (pk X)) L0_s_BestRow) m.length
    (fun i s h1 => i ≤ m.length ∧ h1 = { h with lo := h.next } ∧ ∃ best least a b c, s = [(0, vg), (1, vm), (4, I 0), (5, I best), (6, I least), (7, I i), (8, a), (14, b), (25, c)] ∧ bestF gs best least i (m.drop i) = bestRow gs m)
    (fun e s h1 => e = .exit 0 ∧ h1 = { h with lo := h.next } ∧ ∃ i l a b c, s = [(0, vg), (1, vm), (4, I 0), (5, I (bestRow gs m)), (6, l), (7, i), (8, a), (14, b), (25, c)])
    (s := [(0, vg), (1, vm), (4, I 0), (5, I (-1)), (6, I gs.length), (7, I 0), (8, .lit undef), (14, .lit undef), (25, .lit undef)]) (h := { h with lo := h.next }) ⟨by omega, rfl, -1, gs.length, _, _, _, rfl, by simp [bestRow]⟩ (fun i s h1 hI => hI.1) (by
      rintro i s h1 ⟨hi, rfl, best, least, a, b, c, rfl, hf⟩
      unfold L0_s_BestRow
      by_cases hlt : i < m.length
      · have hlt3 : i < vs.length := by have := hv.1; omega
        have hw2 := wadd (x := i) (y := 1) (by omega) (by omega)
        rw [List.drop_eq_getElem_cons hlt] at hf
        simp only [bestF] at hf
        have hat := hs.at_ (X := X) 47 (by simp) t_25 (k := i) (by simpa using hlt3) (by simp)
        have hF := fun h => hW (hv.2 i hlt3 hlt) (b3 m[i] (List.getElem_mem hlt)) h
        by_cases hk : worst gs m[i] < least
        · rw [if_pos hk] at hf
          simp [hl2, hat, hs.get, hlt, hlt3, hF, hw2, hk]
          exact ⟨by omega, _, _, ⟨rfl, rfl⟩, hf⟩
        · rw [if_neg hk] at hf
          simp [hl2, hat, hs.get, hlt, hlt3, hF, hw2, hk]
          exact ⟨by omega, _, _, ⟨rfl, rfl⟩, hf⟩
      · have : i = m.length := by omega
        subst this
        rw [List.drop_length] at hf
        simp only [bestF] at hf
        simp [hl2, hf])
  rw [he]
  obtain ⟨rfl, rfl, i, l, a, b, c, rfl⟩ := hq
  simp
end Go.Proofs.Ev
end
section
/- The functions: all small sets; the guesses' worth. -/
set_option maxHeartbeats 4000000
set_option maxRecDepth 100000
set_option linter.unusedVariables false
set_option linter.unusedSimpArgs false
namespace Go.Proofs.Ev
open Go Go.RowKit
variable {X : FuncId → Option (List AV → Hp → Option (AV × Hp))}

def mn (a b : Int) : Int := if b < a then b else a
def setsTo (cols most : Int) : List (List Int) := (List.range (mn cols most + 1).toNat).flatMap fun s : Nat => setsL cols s

theorem Rows.append {vs ws : List AV} {ll kk : List (List Int)} (h : Rows vs ll) (k : Rows ws kk) : Rows (vs ++ ws) (ll ++ kk) := by
  refine ⟨by simp [h.1, k.1], fun i h1 h2 => ?_⟩
  have e := h.1
  by_cases hi : i < vs.length
  · rw [List.getElem_append_left hi, List.getElem_append_left (by omega)]
    exact h.2 i hi (by omega)
  · rw [List.getElem_append_right (by omega), List.getElem_append_right (by omega)]
    have := k.2 (i - vs.length) (by simp at h1; omega) (by simp at h2; omega)
    simpa [e] using this
theorem sets_len (cols : Int) (n : Nat) : ((List.range n).flatMap fun s : Nat => setsL cols s).length ≤ n * 6 ^ 6 := by
  have := flatMap_le (fun s : Nat => setsL cols s) (6 ^ 6) (List.range n) (fun c _ => setsL_len _ _)
  simpa using this
theorem SVV.rows {v : AV} {ll : List (List Int)} (s : SVV v ll) (h : Hp) : ∃ vs, h.get v = some (vs.map fun r => [r]) ∧ Rows vs ll ∧ rowOk 1 (vs.map fun r => [r]) = true := by
  obtain ⟨vs, hs, hr⟩ := s
  exact ⟨vs, hs.get h, hr, rows_ok hr.ones⟩

theorem i_setsTo (g : Good X) {cols : Int} (hc : 0 ≤ cols ∧ cols ≤ 6) (most : Int) (h : Hp) : ∃ v', Pc (pk X) 48 [I cols, I most] h = some (v', h) ∧ SVV v' (setsTo cols most) := by
  obtain ⟨e, s', h', he, hq⟩ := for_rule (b := evC (pk X).T (Pc (pk X)) L0_i_setsTo) ((mn cols most + 1).toNat)
    (fun i s h1 => i ≤ (mn cols most + 1).toNat ∧ ∃ out j11 vs, s = [(0, I cols), (1, I most), (4, .nilS), (5, out), (6, I i), (11, j11)] ∧ Out h.next 25 1 (vs.map fun r => [r]) out h1 ∧ Rows vs ((List.range i).flatMap fun s : Nat => setsL cols s))
    (fun e s h1 => ∃ ji out j11 vs, s = [(0, I cols), (1, I most), (4, .nilS), (5, out), (6, ji), (11, j11)] ∧ e = .exit 0 ∧ Out h.next 25 1 (vs.map fun r => [r]) out h1 ∧ Rows vs (setsTo cols most))
    (s := [(0, I cols), (1, I most), (4, .nilS), (5, .nilS), (6, I 0), (11, .lit undef)]) (h := { h with lo := h.next }) ⟨Nat.zero_le _, _, _, [], rfl, ⟨Nat.le_refl _, Nat.le_refl _, .inl ⟨rfl, rfl⟩⟩, Rows.nil⟩ (fun _ _ _ hI => hI.1) (by
      rintro i s h1 ⟨hi, out, j11, vs, rfl, ho, hr⟩
      unfold L0_i_setsTo
      have hmn : mn cols most ≤ 6 := by unfold mn; split <;> omega
      have hle : ((i : Int) ≤ if most < cols then most else cols) ↔ i < (mn cols most + 1).toNat := by
        show (i : Int) ≤ mn cols most ↔ _
        omega
      by_cases hlt : i < (mn cols most + 1).toNat
      · have hle' := hle.2 hlt
        have hw2 := wadd (x := i) (y := 1) (by omega) (by omega)
        obtain ⟨w, hS, hw⟩ := i_SetsOf g cols i h1
        obtain ⟨ws, hg, hrw, hok⟩ := hw.rows h1
        have hl1 := hr.1
        have hl2 := sets_len cols i
        have hl3 := setsL_len cols i
        have hl4 := hrw.1
        obtain ⟨v', h2, ha, ho', hp, hf⟩ := ho.append (X := X) 47 (by simp) t_25 (by simp) hg hok (by simp; omega) (by simp; omega)
        simp [hle', hS, ha, hw2]
        refine ⟨by omega, vs ++ ws, by simpa using ho', ?_⟩
        rw [List.range_succ, List.flatMap_append]
        exact hr.append (by simpa using hrw)
      · have hle' : ¬ ((i : Int) ≤ if most < cols then most else cols) := fun h => hlt (hle.1 h)
        have : i = (mn cols most + 1).toNat := by omega
        have hr' : Rows vs (setsTo cols most) := by rw [this] at hr; exact hr
        simp [hle']
        exact ⟨_, _, ⟨rfl, rfl⟩, vs, ho, hr'⟩)
  -- he, hq: ji, out, j11, vs, rfl, fin
  obtain ⟨ji, out, j11, vs, rfl, rfl, ho, hr⟩ := hq
  obtain ⟨v', hz, hv⟩ := ho.frz (n := h.next) (k := 38) (Nat.le_refl _) (frzEs_rows _ _ 33 vs _ hr)
  refine ⟨v', r_i_setsTo g ?_, vs, hv, hr⟩
  unfold cc_i_setsTo
  simp [he, hz]

theorem s_l16Sets (g : Good X) {cols : Int} (hc : 0 ≤ cols ∧ cols ≤ 6) (most : Int) (h : Hp) : ∃ v', Pc (pk X) 46 [I cols, I most] h = some (v', h) ∧ SVV v' (setsTo cols most) := by
  obtain ⟨e, s', h', he, hq⟩ := for_rule (b := evC (pk X).T (Pc (pk X)) L0_s_l16Sets) ((mn cols most + 1).toNat)
    (fun i s h1 => i ≤ (mn cols most + 1).toNat ∧ ∃ out j15 vs, s = [(0, I cols), (1, I most), (4, .nilS), (5, out), (6, I i), (15, j15)] ∧ Out h.next 25 1 (vs.map fun r => [r]) out h1 ∧ Rows vs ((List.range i).flatMap fun s : Nat => setsL cols s))
    (fun e s h1 => ∃ ji out j15 vs, s = [(0, I cols), (1, I most), (4, .nilS), (5, out), (6, ji), (15, j15)] ∧ e = .exit 0 ∧ Out h.next 25 1 (vs.map fun r => [r]) out h1 ∧ Rows vs (setsTo cols most))
    (s := [(0, I cols), (1, I most), (4, .nilS), (5, .imm true []), (6, I 0), (15, .lit undef)]) (h := { h with lo := h.next }) ⟨Nat.zero_le _, _, _, [], rfl, ⟨Nat.le_refl _, Nat.le_refl _, .inr (.inl ⟨rfl, rfl⟩)⟩, Rows.nil⟩ (fun _ _ _ hI => hI.1) (by
      rintro i s h1 ⟨hi, out, j15, vs, rfl, ho, hr⟩
      unfold L0_s_l16Sets
      have hmn : mn cols most ≤ 6 := by unfold mn; split <;> omega
      by_cases hlt : i < (mn cols most + 1).toNat
      · have hle1 : (i : Int) ≤ cols := by unfold mn at hlt; split at hlt <;> omega
        have hle2 : (i : Int) ≤ most := by unfold mn at hlt; split at hlt <;> omega
        have hw2 := wadd (x := i) (y := 1) (by omega) (by omega)
        obtain ⟨w, hS, hw⟩ := s_SetsOf g cols i h1
        obtain ⟨ws, hg, hrw, hok⟩ := hw.rows h1
        have hl1 := hr.1
        have hl2 := sets_len cols i
        have hl3 := setsL_len cols i
        have hl4 := hrw.1
        obtain ⟨v', h2, ha, ho', hp, hf⟩ := ho.append (X := X) 47 (by simp) t_25 (by simp) hg hok (by simp; omega) (by simp; omega)
        simp [hle1, hle2, hS, ha, hw2]
        refine ⟨by omega, vs ++ ws, by simpa using ho', ?_⟩
        rw [List.range_succ, List.flatMap_append]
        exact hr.append (by simpa using hrw)
      · have : i = (mn cols most + 1).toNat := by omega
        have hgt : ¬ (i : Int) ≤ cols ∨ ((i : Int) ≤ cols ∧ ¬ (i : Int) ≤ most) := by unfold mn at hlt; split at hlt <;> omega
        have hr' : Rows vs (setsTo cols most) := by rw [this] at hr; exact hr
        rcases hgt with hgt | ⟨hg1, hg2⟩
        · simp [hgt]
          exact ⟨_, _, ⟨rfl, rfl⟩, vs, ho, hr'⟩
        · simp [hg1, hg2]
          exact ⟨_, _, ⟨rfl, rfl⟩, vs, ho, hr'⟩)
  -- he, hq: ji, out, j15, vs, rfl, fin
  obtain ⟨ji, out, j15, vs, rfl, rfl, ho, hr⟩ := hq
  obtain ⟨v', hz, hv⟩ := ho.frz (n := h.next) (k := 38) (Nat.le_refl _) (frzEs_rows _ _ 33 vs _ hr)
  refine ⟨v', r_s_l16Sets g ?_, vs, hv, hr⟩
  unfold cc_s_l16Sets
  simp [he, hz, buildSlice, lits]

def afterV (gs : List (List Int)) (row : List Int) (bad : Bool) : List (List Int) := gs.filter fun s => failsWith row s == bad
theorem afterV_len (row : List Int) : ∀ gs, ((afterV gs row true).length : Int) = cnt row gs
  | [] => rfl
  | s :: gs => by
    have := afterV_len row gs
    unfold afterV at this ⊢
    simp only [List.filter_cons, cnt]
    cases hf : failsWith row s
    · simpa using this
    · simp only [beq_self_eq_true, if_true, List.length_cons]
      omega

theorem SVV.at_ {v : AV} {ll : List (List Int)} (s : SVV v ll) {k : Nat} (hk : k < ll.length) :
    ∃ r, (∀ h, idxAddr (pk X).T h 47 v (I k) = some (.elem v k 0)) ∧ (∀ h, ld (pk X).T h 25 (.elem v k 0) = some r) ∧ SVI r ll[k] := by
  obtain ⟨vs, hs, hv⟩ := s
  have hk' : k < vs.length := by have := hv.1; omega
  refine ⟨vs[k], fun h => hs.at_ (X := X) 47 (by simp) t_25 (k := k) (by simpa using hk') (by simp) h, fun h => by simp [hs.get, hk'], hv.2 k hk' hk⟩

theorem i_AfterVerdict (g : Good X) {vg vr : AV} {gs : List (List Int)} {row : List Int} (hg : SVV vg gs) (hr : SVI vr row) (bad : Bool) (b1 : gs.length ≤ 2 ^ 30) (b2 : ∀ r ∈ gs, r.length ≤ 2 ^ 30) (b3 : row.length ≤ 2 ^ 40) (h : Hp) :
    ∃ v', Pc (pk X) 115 [vg, vr, Bo bad] h = some (v', h) ∧ SVV v' (afterV gs row bad) := by
  have hlen := hg.len (X := X)
  obtain ⟨e, s', h', he, hq⟩ := for_rule (b := evC (pk X).T (Pc (pk X)) L0_i_AfterVerdict) gs.length
    (fun i s h1 => i ≤ gs.length ∧ ∃ out j9 j13 j20, s = [(0, vg), (1, vr), (2, Bo bad), (6, .nilS), (7, out), (9, j9), (10, vg), (11, I gs.length), (12, I i), (13, j13), (20, j20)] ∧ OutD h.next (afterV (gs.take i) row bad) out h1)
    (fun e s h1 => ∃ ji out j9 j13 j20, s = [(0, vg), (1, vr), (2, Bo bad), (6, .nilS), (7, out), (9, j9), (10, vg), (11, I gs.length), (12, ji), (13, j13), (20, j20)] ∧ e = .exit 0 ∧ OutD h.next (afterV gs row bad) out h1)
    (s := [(0, vg), (1, vr), (2, Bo bad), (6, .nilS), (7, .nilS), (9, .lit undef), (10, vg), (11, I gs.length), (12, I 0), (13, .lit undef), (20, .lit undef)]) (h := { h with lo := h.next }) ⟨Nat.zero_le _, _, _, _, _, rfl, OutD.nil (Nat.le_refl _) (Nat.le_refl _)⟩ (fun _ _ _ hI => hI.1) (by
      rintro i s h1 ⟨hi, out, j9, j13, j20, rfl, ho⟩
      unfold L0_i_AfterVerdict
      by_cases hlt : i < gs.length
      · have hw2 := wadd (x := i) (y := 1) (by omega) (by omega)
        obtain ⟨r, hat, hl, hri⟩ := hg.at_ (X := X) hlt
        have hbr := b2 gs[i] (List.getElem_mem hlt)
        have hF := fun h => i_FailsWith g hr hri h (by omega) b3
        have hstep : afterV (gs.take (i + 1)) row bad = if (failsWith row gs[i] == bad) = true then afterV (gs.take i) row bad ++ [gs[i]] else afterV (gs.take i) row bad := by
          unfold afterV
          rw [List.take_succ_eq_append_getElem hlt, List.filter_append]
          split
          · rename_i hc; simp [hc]
          · rename_i hc; simp [hc]
        cases hc : (failsWith row gs[i] == bad)
        · simp only [hc, Bool.false_eq_true, if_false] at hstep
          simp [hlt, hat, hl, hF, hc, hw2, hstep]
          exact ⟨by omega, ho⟩
        · simp only [hc, if_true] at hstep
          have hlo : h1.lo ≤ h1.next := Nat.le_trans ho.lo ho.nx
          have e0 : Out h1.next 3 1 [] .nilS h1 := ⟨hlo, Nat.le_refl _, .inl ⟨rfl, rfl⟩⟩
          obtain ⟨v2, h2, ha2, ho2, hp2, hf2⟩ := e0.append (X := X) 25 (by simp) t_3 (by simp) (hri.get h1) (by exact row_ok gs[i]) (by simp) (by simp; omega)
          have hv2 : OrI h.next h2 v2 gs[i] := (Out.orI (by simpa using ho2)).weak ho.nx
          have hap : Apart v2 out := fun id e1 e2 => by have := (ho.lt e2).2; have := ho2.ge e1; omega
          have hal : (afterV (gs.take i) row bad).length ≤ gs.length := by
            unfold afterV
            exact Nat.le_trans (List.length_filter_le ..) (by simp; omega)
          obtain ⟨v3, h3, ha3, ho3, hp3, hf3⟩ := (ho.ext hp2).push (X := X) hv2 hap (by omega) true
          simp [hlt, hat, hl, hF, hc, hw2, hstep, ha2, buildSlice, lits, hv2.one, hv2.cells, ha3]
          exact ⟨by omega, ho3⟩
      · have : i = gs.length := by omega
        subst this
        rw [List.take_length] at ho
        simp
        exact ⟨_, _, ⟨rfl, rfl⟩, ho⟩)
  -- he, hq: ji, out, j9, j13, j20, rfl, fin
  obtain ⟨ji, out, j9, j13, j20, rfl, rfl, ho⟩ := hq
  obtain ⟨v', hz, hv⟩ := ho.frz (n := h.next) (Nat.le_refl _) 33
  refine ⟨v', r_i_AfterVerdict g ?_, hv⟩
  unfold cc_i_AfterVerdict
  simp [hlen, he, hz]

theorem i_WorstLeft (g : Good X) {vg vr : AV} {gs : List (List Int)} {row : List Int} (hg : SVV vg gs) (hr : SVI vr row) (b1 : gs.length ≤ 2 ^ 30) (b2 : ∀ r ∈ gs, r.length ≤ 2 ^ 30) (b3 : row.length ≤ 2 ^ 40) (h : Hp) :
    Pc (pk X) 89 [vg, vr] h = some (I (worst gs row), h) := by
  refine r_i_WorstLeft g ?_
  unfold cc_i_WorstLeft
  obtain ⟨v', hA, hv⟩ := i_AfterVerdict g hg hr true b1 b2 b3 { h with lo := h.next }
  have l1 := hv.len (X := X)
  have l2 := hg.len (X := X)
  have hb := cnt_le row gs
  have hw := wsub (x := gs.length) (y := cnt row gs) (by omega) (by omega)
  have e := afterV_len row gs
  simp [hA, l1, l2, e, hw, worst]
end Go.Proofs.Ev
end
section
/- The functions: a world's matrix. -/
set_option maxRecDepth 100000
set_option linter.unusedVariables false
set_option linter.unusedSimpArgs false
namespace Go.Proofs.Ev
open Go Go.RowKit
variable {X : FuncId → Option (List AV → Hp → Option (AV × Hp))}

theorem i_WorldMatrix (g : Good X) {w : Wd} {v : Wv} (ok : WOk w v) (bp : w.probes.length ≤ 2 ^ 30) (h : Hp) :
    ∃ v', Pc (pk X) 45 [.agg (wcs w v)] h = some (v', h) ∧ SVV v' (matrixOf w.probes w.links.length) := by
  have o1 := ok.l.one; have o2 := ok.d.one; have o3 := ok.dn.one; have o4 := ok.p.one; have o5 := ok.o.one; have o6 := ok.li.one; have o7 := ok.s.one
  have l1 := lk_len (X := X) ok.l
  obtain ⟨v', hM, hv⟩ := i_MatrixOf g ok.p ok.pp bp (w.links.length : Int) (addRow { h with lo := h.next } 41 13 [wcs w v])
  simp only [addRow] at hM
  have hz : ∀ h1 : Hp, frz h1 h.next 40 v' = some v' := by
    intro h1
    obtain ⟨vs, hs, hr⟩ := hv
    rcases hs with ⟨rfl, _⟩ | ⟨x, rfl⟩
    · simp
    · show frz h1 h.next (39 + 1) _ = _
      simp only [frz]
      rw [show (39 : Nat) = 33 + 6 by rfl, frzEs_rows h1 h.next 33 vs _ hr]
      rfl
  refine ⟨v', r_i_WorldMatrix g ?_, hv⟩
  unfold cc_i_WorldMatrix
  simp [box, addRow, o1, o2, o3, o4, o5, o6, o7, l1, hM, hz]

theorem s_WorldMatrix (g : Good X) {w : Wd} {v : Wv} (ok : WOk w v) (bp : w.probes.length ≤ 2 ^ 30) (h : Hp) :
    ∃ v', Pc (pk X) 43 [.agg (wcs w v)] h = some (v', h) ∧ SVV v' (matrixOf w.probes w.links.length) := by
  have o1 := ok.l.one; have o2 := ok.d.one; have o3 := ok.dn.one; have o4 := ok.p.one; have o5 := ok.o.one; have o6 := ok.li.one; have o7 := ok.s.one
  have l1 := lk_len (X := X) ok.l
  obtain ⟨v', hM, hv⟩ := s_MatrixOf g ok.p ok.pp bp (w.links.length : Int) (addRow { h with lo := h.next } 41 13 [wcs w v])
  simp only [addRow] at hM
  have hz : ∀ h1 : Hp, frz h1 h.next 40 v' = some v' := by
    intro h1
    obtain ⟨vs, hs, hr⟩ := hv
    rcases hs with ⟨rfl, _⟩ | ⟨x, rfl⟩
    · simp
    · show frz h1 h.next (39 + 1) _ = _
      simp only [frz]
      rw [show (39 : Nat) = 33 + 6 by rfl, frzEs_rows h1 h.next 33 vs _ hr]
      rfl
  refine ⟨v', r_s_WorldMatrix g ?_, hv⟩
  unfold cc_s_WorldMatrix
  simp [box, addRow, o1, o2, o3, o4, o5, o6, o7, l1, hM, hz]
end Go.Proofs.Ev
end
section
/- The functions: the guesses now; the next probe for faults. -/
set_option maxHeartbeats 4000000
set_option maxRecDepth 100000
set_option linter.unusedVariables false
set_option linter.unusedSimpArgs false
namespace Go.Proofs.Ev
open Go Go.RowKit
variable {X : FuncId → Option (List AV → Hp → Option (AV × Hp))}

def guessF (w : Wd) (l : List (List Int)) : List (List Int) := (l.filter fun s => explains (verdM w) (verdB w) s).take 22
def guesses (w : Wd) (most : Int) : List (List Int) := if isWorld w = true then guessF w (setsTo w.links.length most) else []

theorem guessF_len (w : Wd) (l : List (List Int)) : (guessF w l).length ≤ 22 := by unfold guessF; simp; omega
theorem guessF_step (w : Wd) {l : List (List Int)} {i : Nat} (hi : i < l.length) : guessF w (l.take (i + 1)) =
    if (decide (((guessF w (l.take i)).length : Int) < 22) && explains (verdM w) (verdB w) l[i]) = true then guessF w (l.take i) ++ [l[i]] else guessF w (l.take i) := by
  unfold guessF
  rw [List.take_succ_eq_append_getElem hi, List.filter_append]
  generalize (l.take i).filter (fun s => explains (verdM w) (verdB w) s) = a
  cases he : explains (verdM w) (verdB w) l[i]
  · simp [he]
  · simp only [List.filter_cons, he, if_true, List.filter_nil, Bool.and_true, decide_eq_true_eq, List.length_take]
    by_cases ha : a.length < 22
    · rw [if_pos (by omega), List.take_of_length_le (by simp; omega), List.take_of_length_le (by omega)]
    · rw [if_neg (by omega), List.take_append_of_le_length (by omega)]

theorem dfs_mem (cols : Nat) : ∀ (k : Nat) (set : List Int) (fr : Nat), ∀ r ∈ dfs cols k set fr, r.length = set.length + k
  | 0, set, fr, r, h => by
    simp only [dfs, List.mem_singleton] at h
    subst h
    rfl
  | k + 1, set, fr, r, h => by
    simp only [dfs, List.mem_flatMap] at h
    obtain ⟨c, _, hr⟩ := h
    have := dfs_mem cols k _ _ r hr
    simp at this
    omega
theorem setsL_mem {cols size : Int} {r : List Int} (h : r ∈ setsL cols size) : r.length ≤ 6 := by
  unfold setsL at h
  split at h
  · rename_i hc
    simp only [Bool.and_eq_true, decide_eq_true_eq] at hc
    have := dfs_mem _ _ _ _ r h
    simp at this
    omega
  · cases h
theorem setsTo_mem {cols most : Int} {r : List Int} (h : r ∈ setsTo cols most) : r.length ≤ 6 := by
  unfold setsTo at h
  obtain ⟨s, _, hr⟩ := List.mem_flatMap.1 h
  exact setsL_mem hr
theorem guesses_mem {w : Wd} {most : Int} {r : List Int} (h : r ∈ guesses w most) : r.length ≤ 6 := by
  unfold guesses at h
  split at h
  · unfold guessF at h
    exact setsTo_mem (List.mem_filter.1 (List.mem_of_mem_take h)).1
  · cases h
theorem guesses_len (w : Wd) (most : Int) : (guesses w most).length ≤ 22 := by
  unfold guesses
  split
  · exact guessF_len _ _
  · simp
theorem rowOf_len (p : List Int) (n : Int) : (rowOf p n).length ≤ 6 := by
  unfold rowOf
  split
  · rename_i h
    simp only [Bool.and_eq_true, decide_eq_true_eq] at h
    simp
    omega
  · simp
theorem verdM_mem {w : Wd} {r : List Int} (h : r ∈ verdM w) : r.length ≤ 6 := by
  unfold verdM at h
  split at h
  · obtain ⟨i, _, rfl⟩ := List.mem_map.1 h
    unfold vrow
    split
    · split
      · exact rowOf_len _ _
      · simp
    · simp
  · cases h
theorem verdM_len (w : Wd) : (verdM w).length ≤ w.seen.length := by
  unfold verdM
  split
  · rw [List.length_map]
    exact seenAt_len ..
  · simp
theorem matrixOf_mem {ps : List Prb} {n : Int} {r : List Int} (h : r ∈ matrixOf ps n) : r.length ≤ 6 := by
  obtain ⟨p, _, rfl⟩ := List.mem_map.1 h
  exact rowOf_len _ _
theorem setsTo_len {cols most : Int} (hc : 0 ≤ cols ∧ cols ≤ 6) : (setsTo cols most).length ≤ 7 * 6 ^ 6 := by
  have h1 := sets_len cols (mn cols most + 1).toNat
  have h2 : (mn cols most + 1).toNat ≤ 7 := by unfold mn; split <;> omega
  exact Nat.le_trans h1 (Nat.mul_le_mul_right _ h2)

theorem i_GuessesNow (g : Good X) {w : Wd} {v : Wv} (ok : WOk w v) (bs : w.seen.length ≤ 2 ^ 30) (most : Int) (h : Hp) :
    ∃ v', Pc (pk X) 15 [.agg (wcs w v), I most] h = some (v', h) ∧ SVV v' (guesses w most) := by
  have o1 := ok.l.one; have o2 := ok.d.one; have o3 := ok.dn.one; have o4 := ok.p.one; have o5 := ok.o.one; have o6 := ok.li.one; have o7 := ok.s.one
  have l1 := lk_len (X := X) ok.l
  have f1 := i_IsWorld g ok
  cases hw : isWorld w <;> rw [hw] at f1
  · refine ⟨.nilS, r_i_GuessesNow g ?_, by simp only [guesses, hw]; exact ⟨[], .inl ⟨rfl, rfl⟩, Rows.nil⟩⟩
    unfold cc_i_GuessesNow
    simp [box, addRow, o1, o2, o3, o4, o5, o6, o7, f1]
  have hnet := isWorld_net hw
  have hG : guesses w most = guessF w (setsTo w.links.length most) := by simp only [guesses, hw, if_true]
  rw [hG]
  obtain ⟨vm, vb, hV, hvm, hvb⟩ := i_VerdictsNow g ok bs { rows := updR h.rows h.next (some ⟨41, 13, [wcs w v]⟩), next := h.next + 1, lo := h.next }
  obtain ⟨vs, hT, hvs⟩ := i_setsTo g (cols := w.links.length) (by omega) most { rows := updR h.rows h.next (some ⟨41, 13, [wcs w v]⟩), next := h.next + 1, lo := h.next }
  have lS := hvs.len (X := X)
  have bT := setsTo_len (cols := w.links.length) (most := most) (by omega)
  have bV := verdM_len w
  have hsm : ∀ r ∈ setsTo w.links.length most, r.length ≤ 6 := fun r h => setsTo_mem h
  generalize hsets : setsTo w.links.length most = sets at *
  obtain ⟨e, s', h', he, hq⟩ := for_rule (b := evC (pk X).T (Pc (pk X)) L0_i_GuessesNow) sets.length
    (fun i s h1 => i ≤ sets.length ∧ ∃ out j9 j26 j37, s = [(0, .agg (wcs w v)), (1, I most), (2, .elem (.own h.next) 0 0), (4, .nilS), (5, vm), (6, vb), (7, out), (9, j9), (12, Bo false), (23, vs), (24, I sets.length), (25, I i), (26, j26), (37, j37)] ∧ OutD (h.next + 1) (guessF w (sets.take i)) out h1)
    (fun e s h1 => ∃ ji out j9 j26 j37, s = [(0, .agg (wcs w v)), (1, I most), (2, .elem (.own h.next) 0 0), (4, .nilS), (5, vm), (6, vb), (7, out), (9, j9), (12, Bo false), (23, vs), (24, I sets.length), (25, ji), (26, j26), (37, j37)] ∧ e = .exit 0 ∧ OutD (h.next + 1) (guessF w sets) out h1)
    (s := [(0, .agg (wcs w v)), (1, I most), (2, .elem (.own h.next) 0 0), (4, .nilS), (5, vm), (6, vb), (7, .nilS), (9, .lit undef), (12, Bo false), (23, vs), (24, I sets.length), (25, I 0), (26, .lit undef), (37, .lit undef)]) (h := { rows := updR h.rows h.next (some ⟨41, 13, [wcs w v]⟩), next := h.next + 1, lo := h.next }) ⟨Nat.zero_le _, .nilS, .lit undef, .lit undef, .lit undef, by simp, OutD.nil (Nat.le_succ _) (Nat.le_refl _)⟩ (fun _ _ _ hI => hI.1) (by
      rintro i s h1 ⟨hi, out, j9, j26, j37, rfl, ho⟩
      unfold L0_i_GuessesNow
      by_cases hlt : i < sets.length
      case neg =>
        have : i = sets.length := by omega
        subst this
        rw [List.take_length] at ho
        simp
        exact ⟨_, _, ⟨rfl, rfl⟩, ho⟩
      have hw2 := wadd (x := i) (y := 1) (by omega) (by omega)
      obtain ⟨r, hat, hl, hri⟩ := hvs.at_ (X := X) hlt
      have hbr : sets[i].length ≤ 6 := hsm _ (List.getElem_mem hlt)
      have hE := fun h => i_Explains g hvm hvb hri (by omega) (fun r hr => by have := verdM_mem hr; omega) (by omega) h
      have hst := guessF_step w hlt
      have hgl := guessF_len w (sets.take i)
      have hol := ho.len (X := X)
      cases hc1 : decide (((guessF w (sets.take i)).length : Int) < 22)
      · simp only [hc1, Bool.false_and, Bool.false_eq_true, if_false] at hst
        simp only [decide_eq_false_iff_not] at hc1
        simp [hlt, hat, hl, hol, hc1, hw2, hst]
        exact ⟨by omega, ho⟩
      · cases hc2 : explains (verdM w) (verdB w) sets[i]
        · simp only [hc1, hc2, Bool.and_false, Bool.false_eq_true, if_false] at hst
          simp only [decide_eq_true_eq] at hc1
          simp [hlt, hat, hl, hol, hc1, hE, hc2, hw2, hst]
          exact ⟨by omega, ho⟩
        · simp only [hc1, hc2, Bool.and_self, if_true] at hst
          simp only [decide_eq_true_eq] at hc1
          obtain ⟨v3, h3, ha3, ho3, hp3, hf3⟩ := ho.push (X := X) (.inl hri) (fun id e1 e2 => by subst e1; rcases hri with ⟨h, _⟩ | ⟨x, h⟩ <;> cases h) (by omega) true
          simp [hlt, hat, hl, hol, hc1, hE, hc2, hw2, hst, buildSlice, lits, hri.one, hri.cells, ha3]
          exact ⟨by omega, ho3⟩)
  -- he, hq: ji, out, j9, j26, j37, rfl, fin
  obtain ⟨ji, out, j9, j26, j37, rfl, rfl, ho⟩ := hq
  obtain ⟨v', hz, hv⟩ := ho.frz (n := h.next) (by omega) 33
  refine ⟨v', r_i_GuessesNow g ?_, hv⟩
  unfold cc_i_GuessesNow
  simp [box, addRow, o1, o2, o3, o4, o5, o6, o7, f1, hV, l1, hT, lS, he, hz]

theorem s_GuessesNow (g : Good X) {w : Wd} {v : Wv} (ok : WOk w v) (bs : w.seen.length ≤ 2 ^ 30) (most : Int) (h : Hp) :
    ∃ v', Pc (pk X) 14 [.agg (wcs w v), I most] h = some (v', h) ∧ SVV v' (guesses w most) := by
  have o1 := ok.l.one; have o2 := ok.d.one; have o3 := ok.dn.one; have o4 := ok.p.one; have o5 := ok.o.one; have o6 := ok.li.one; have o7 := ok.s.one
  have l1 := lk_len (X := X) ok.l
  have f1 := s_IsWorld g ok
  cases hw : isWorld w <;> rw [hw] at f1
  · refine ⟨.imm true [], r_s_GuessesNow g ?_, by simp only [guesses, hw]; exact ⟨[], .inr ⟨true, rfl⟩, Rows.nil⟩⟩
    unfold cc_s_GuessesNow
    simp [box, addRow, o1, o2, o3, o4, o5, o6, o7, f1, buildSlice, lits]
  have hnet := isWorld_net hw
  have hG : guesses w most = guessF w (setsTo w.links.length most) := by simp only [guesses, hw, if_true]
  rw [hG]
  obtain ⟨vm, vb, hV, hvm, hvb⟩ := s_VerdictsNow g ok bs { rows := updR h.rows h.next (some ⟨41, 13, [wcs w v]⟩), next := h.next + 1, lo := h.next }
  obtain ⟨vs, hT, hvs⟩ := s_l16Sets g (cols := w.links.length) (by omega) most { rows := updR h.rows h.next (some ⟨41, 13, [wcs w v]⟩), next := h.next + 1, lo := h.next }
  have lS := hvs.len (X := X)
  have bT := setsTo_len (cols := w.links.length) (most := most) (by omega)
  have bV := verdM_len w
  have hsm : ∀ r ∈ setsTo w.links.length most, r.length ≤ 6 := fun r h => setsTo_mem h
  generalize hsets : setsTo w.links.length most = sets at *
  obtain ⟨e, s', h', he, hq⟩ := for_rule (b := evC (pk X).T (Pc (pk X)) L0_s_GuessesNow) sets.length
    (fun i s h1 => i ≤ sets.length ∧ ∃ out j29 j43, s = [(0, .agg (wcs w v)), (1, I most), (2, .elem (.own h.next) 0 0), (4, .nilS), (5, out), (6, vm), (7, vb), (8, vs), (9, I i), (13, Bo false), (29, j29), (43, j43)] ∧ OutD (h.next + 1) (guessF w (sets.take i)) out h1)
    (fun e s h1 => ∃ ji out j29 j43, s = [(0, .agg (wcs w v)), (1, I most), (2, .elem (.own h.next) 0 0), (4, .nilS), (5, out), (6, vm), (7, vb), (8, vs), (9, ji), (13, Bo false), (29, j29), (43, j43)] ∧ e = .exit 0 ∧ OutD (h.next + 1) (guessF w sets) out h1)
    (s := [(0, .agg (wcs w v)), (1, I most), (2, .elem (.own h.next) 0 0), (4, .nilS), (5, .imm true []), (6, vm), (7, vb), (8, vs), (9, I 0), (13, Bo false), (29, .lit undef), (43, .lit undef)]) (h := { rows := updR h.rows h.next (some ⟨41, 13, [wcs w v]⟩), next := h.next + 1, lo := h.next }) ⟨Nat.zero_le _, .imm true [], .lit undef, .lit undef, by simp, OutD.emp (Nat.le_succ _) (Nat.le_refl _)⟩ (fun _ _ _ hI => hI.1) (by
      rintro i s h1 ⟨hi, out, j29, j43, rfl, ho⟩
      unfold L0_s_GuessesNow
      by_cases hlt : i < sets.length
      case neg =>
        have : i = sets.length := by omega
        subst this
        rw [List.take_length] at ho
        simp [lS]
        exact ⟨_, _, ⟨rfl, rfl⟩, ho⟩
      have hw2 := wadd (x := i) (y := 1) (by omega) (by omega)
      obtain ⟨r, hat, hl, hri⟩ := hvs.at_ (X := X) hlt
      have hbr : sets[i].length ≤ 6 := hsm _ (List.getElem_mem hlt)
      have hE := fun h => s_Explains g hvm hvb hri (by omega) (fun r hr => by have := verdM_mem hr; omega) (by omega) h
      have hst := guessF_step w hlt
      have hgl := guessF_len w (sets.take i)
      have hol := ho.len (X := X)
      cases hc1 : decide (((guessF w (sets.take i)).length : Int) < 22)
      · simp only [hc1, Bool.false_and, Bool.false_eq_true, if_false] at hst
        simp only [decide_eq_false_iff_not] at hc1
        simp [hlt, lS, hat, hl, hol, hc1, hw2, hst]
        exact ⟨by omega, ho⟩
      · cases hc2 : explains (verdM w) (verdB w) sets[i]
        · simp only [hc1, hc2, Bool.and_false, Bool.false_eq_true, if_false] at hst
          simp only [decide_eq_true_eq] at hc1
          simp [hlt, lS, hat, hl, hol, hc1, hE, hc2, hw2, hst]
          exact ⟨by omega, ho⟩
        · simp only [hc1, hc2, Bool.and_self, if_true] at hst
          simp only [decide_eq_true_eq] at hc1
          have hlo : h1.lo ≤ h1.next := Nat.le_trans ho.lo ho.nx
          have e0 : Out h1.next 3 1 [] (.imm true []) h1 := ⟨hlo, Nat.le_refl _, .inr (.inl ⟨rfl, rfl⟩)⟩
          obtain ⟨v2, h2, ha2, ho2, hp2, hf2⟩ := e0.append (X := X) 25 (by simp) t_3 (by simp) (hri.get h1) (by exact row_ok sets[i]) (by simp) (by simp; omega)
          have hv2 : OrI (h.next + 1) h2 v2 sets[i] := (Out.orI (by simpa using ho2)).weak ho.nx
          have hap : Apart v2 out := fun id e1 e2 => by have := (ho.lt e2).2; have := ho2.ge e1; omega
          obtain ⟨v3, h3, ha3, ho3, hp3, hf3⟩ := (ho.ext (hp2.nil (by simp))).push (X := X) hv2 hap (by omega) true
          simp [hlt, lS, hat, hl, hol, hc1, hE, hc2, hw2, hst, buildSlice, lits, ha2, hv2.one, hv2.cells, ha3]
          exact ⟨by omega, ho3⟩)
  -- he, hq: ji, out, j29, j43, rfl, fin
  obtain ⟨ji, out, j29, j43, rfl, rfl, ho⟩ := hq
  obtain ⟨v', hz, hv⟩ := ho.frz (n := h.next) (by omega) 33
  refine ⟨v', r_s_GuessesNow g ?_, hv⟩
  unfold cc_s_GuessesNow
  simp [box, addRow, o1, o2, o3, o4, o5, o6, o7, f1, hV, l1, hT, lS, he, hz, buildSlice, lits]

theorem i_BestRow (g : Good X) {vg vm : AV} {gs m : List (List Int)} (hg : SVV vg gs) (hm : SVV vm m) (b1 : gs.length ≤ 2 ^ 30) (b2 : ∀ r ∈ gs, r.length ≤ 2 ^ 30) (b3 : ∀ r ∈ m, r.length ≤ 2 ^ 40) (b4 : m.length ≤ 2 ^ 40) (h : Hp) :
    Pc (pk X) 44 [vg, vm] h = some (I (bestRow gs m), h) := by
  refine r_i_BestRow g ?_
  unfold cc_i_BestRow
  have hl1 := hg.len (X := X)
  have hl2 := hm.len (X := X)
  obtain ⟨e, s', h', he, hq⟩ := for_rule (b := evC (pk X).T (Pc (pk X)) L0_i_BestRow) m.length
    (fun i s h1 => i ≤ m.length ∧ h1 = { h with lo := h.next } ∧ ∃ best least j7 j8 j9 j15 j24, s = [(0, vg), (1, vm), (4, I 0), (5, I best), (6, I least), (7, j7), (8, j8), (9, j9), (12, vm), (13, I m.length), (14, I i), (15, j15), (24, j24)] ∧ bestF gs best least i (m.drop i) = bestRow gs m)
    (fun e s h1 => h1 = { h with lo := h.next } ∧ ∃ ji best least j7 j8 j9 j15 j24, s = [(0, vg), (1, vm), (4, I 0), (5, I best), (6, I least), (7, j7), (8, j8), (9, j9), (12, vm), (13, I m.length), (14, ji), (15, j15), (24, j24)] ∧ e = .exit 0 ∧ best = bestRow gs m)
    (s := [(0, vg), (1, vm), (4, I 0), (5, I (-1)), (6, I gs.length), (7, .lit undef), (8, .lit undef), (9, .lit undef), (12, vm), (13, I m.length), (14, I 0), (15, .lit undef), (24, .lit undef)]) (h := { h with lo := h.next }) ⟨Nat.zero_le _, rfl, -1, gs.length, .lit undef, .lit undef, .lit undef, .lit undef, .lit undef, by simp, by simp [bestRow]⟩ (fun _ _ _ hI => hI.1) (by
      rintro i s h1 ⟨hi, rfl, best, least, j7, j8, j9, j15, j24, rfl, hf⟩
      unfold L0_i_BestRow
      by_cases hlt : i < m.length
      case neg =>
        have : i = m.length := by omega
        subst this
        rw [List.drop_length] at hf
        simp only [bestF] at hf
        simp [hf]
      have hw2 := wadd (x := i) (y := 1) (by omega) (by omega)
      obtain ⟨r, hat, hl, hri⟩ := hm.at_ (X := X) hlt
      have hW := fun h => i_WorstLeft g hg hri b1 b2 (b3 _ (List.getElem_mem hlt)) h
      rw [List.drop_eq_getElem_cons hlt] at hf
      simp only [bestF] at hf
      by_cases hk : worst gs m[i] < least
      · rw [if_pos hk] at hf
        simp [hlt, hat, hl, hW, hw2, hk]
        exact ⟨by omega, _, _, ⟨rfl, rfl⟩, hf⟩
      · rw [if_neg hk] at hf
        simp [hlt, hat, hl, hW, hw2, hk]
        exact ⟨by omega, _, _, ⟨rfl, rfl⟩, hf⟩)
  -- he, hq: rfl, ji, best, least, j7, j8, j9, j15, j24, rfl, fin
  obtain ⟨rfl, ji, best, least, j7, j8, j9, j15, j24, rfl, rfl, rfl⟩ := hq
  simp [hl1, hl2, he]

def nextF (w : Wd) (most : Int) : Int := bestRow (guesses w most) (matrixOf w.probes w.links.length)

theorem i_NextForFaults (g : Good X) {w : Wd} {v : Wv} (ok : WOk w v) (bs : w.seen.length ≤ 2 ^ 30) (bp : w.probes.length ≤ 2 ^ 30) (most : Int) (h : Hp) :
    Pc (pk X) 13 [.agg (wcs w v), I most] h = some (I (nextF w most), h) := by
  refine r_i_NextForFaults g ?_
  unfold cc_i_NextForFaults
  have o1 := ok.l.one; have o2 := ok.d.one; have o3 := ok.dn.one; have o4 := ok.p.one; have o5 := ok.o.one; have o6 := ok.li.one; have o7 := ok.s.one
  obtain ⟨vg, hG, hvg⟩ := i_GuessesNow g ok bs most { rows := updR h.rows h.next (some ⟨41, 13, [wcs w v]⟩), next := h.next + 1, lo := h.next }
  obtain ⟨vm, hM, hvm⟩ := i_WorldMatrix g ok bp { rows := updR h.rows h.next (some ⟨41, 13, [wcs w v]⟩), next := h.next + 1, lo := h.next }
  have hB := i_BestRow g hvg hvm (by have := guesses_len w most; omega) (fun r hr => by have := guesses_mem hr; omega) (fun r hr => by have := matrixOf_mem hr; omega) (by simp [matrixOf]; omega)
  simp [box, addRow, o1, o2, o3, o4, o5, o6, o7, hG, hM, hB, nextF]

theorem s_NextForFaults (g : Good X) {w : Wd} {v : Wv} (ok : WOk w v) (bs : w.seen.length ≤ 2 ^ 30) (bp : w.probes.length ≤ 2 ^ 30) (most : Int) (h : Hp) :
    Pc (pk X) 12 [.agg (wcs w v), I most] h = some (I (nextF w most), h) := by
  refine r_s_NextForFaults g ?_
  unfold cc_s_NextForFaults
  have o1 := ok.l.one; have o2 := ok.d.one; have o3 := ok.dn.one; have o4 := ok.p.one; have o5 := ok.o.one; have o6 := ok.li.one; have o7 := ok.s.one
  obtain ⟨vg, hG, hvg⟩ := s_GuessesNow g ok bs most { rows := updR h.rows h.next (some ⟨41, 13, [wcs w v]⟩), next := h.next + 1, lo := h.next }
  obtain ⟨vm, hM, hvm⟩ := s_WorldMatrix g ok bp { rows := updR h.rows h.next (some ⟨41, 13, [wcs w v]⟩), next := h.next + 1, lo := h.next }
  have hB := s_BestRow g hvg hvm (by have := guesses_len w most; omega) (fun r hr => by have := guesses_mem hr; omega) (fun r hr => by have := matrixOf_mem hr; omega) (by simp [matrixOf]; omega)
  simp [box, addRow, o1, o2, o3, o4, o5, o6, o7, hG, hM, hB, nextF]
end Go.Proofs.Ev
end
section
/- The functions: the laws' own copies. -/
set_option maxHeartbeats 4000000
set_option maxRecDepth 100000
set_option linter.unusedVariables false
set_option linter.unusedSimpArgs false
namespace Go.Proofs.Ev
open Go Go.RowKit
variable {X : FuncId → Option (List AV → Hp → Option (AV × Hp))}

/-! A slice that was made at its full length and is filled from the front. -/
def fillC {α : Type} (c : α → List AV) (z : List AV) (n : Nat) (qs : List α) : List (List AV) := qs.map c ++ List.replicate (n - qs.length) z
theorem fillC_get {α : Type} (c : α → List AV) (z : List AV) {n : Nat} {qs : List α} (h : qs.length < n) : (fillC c z n qs)[qs.length]? = some z := by
  unfold fillC
  rw [List.getElem?_append_right (by simp), List.length_map, Nat.sub_self, List.getElem?_replicate, if_pos (by omega)]
theorem fillC_set {α : Type} (c : α → List AV) (z : List AV) {n : Nat} {qs : List α} (h : qs.length < n) (x : α) : (fillC c z n qs).set qs.length (c x) = fillC c z n (qs ++ [x]) := by
  unfold fillC
  obtain ⟨m, hm⟩ : ∃ m, n - qs.length = m + 1 := ⟨n - qs.length - 1, by omega⟩
  have e : n - (qs ++ [x]).length = m := by simp; omega
  rw [hm, e, List.set_append_right _ _ (by simp)]
  simp [List.replicate_succ]
theorem fillC_full {α : Type} (c : α → List AV) (z : List AV) {n : Nat} {qs : List α} (h : qs.length = n) : fillC c z n qs = qs.map c := by
  unfold fillC
  simp [h]
theorem fillC_len {α : Type} (c : α → List AV) (z : List AV) {n : Nat} {qs : List α} (h : qs.length ≤ n) : (fillC c z n qs).length = n := by
  unfold fillC
  simp
  omega
theorem splice_full (z cs : List AV) (h : cs.length = z.length) : splice z 0 cs = cs := by
  unfold splice
  simp [h]
theorem fillC_nil {α : Type} (c : α → List AV) (z : List AV) (n : Nat) : List.replicate n z = fillC c z n [] := by simp [fillC]

theorem w_toLink (g : Good X) (x : Int × Int) (h : Hp) : Pc (pk X) 101 [.agg (lk x)] h = some (.agg (lk x), h) := by
  refine r_w_toLink g ?_
  unfold cc_w_toLink
  simp [box, addRow, alloc, stor, splice]
  show frz _ _ (39 + 1) _ = _
  simp [frz, frzL]

theorem w_toSeen (g : Good X) (x : Sn) (h : Hp) : Pc (pk X) 72 [.agg (snc x)] h = some (.agg (snc x), h) := by
  refine r_w_toSeen g ?_
  unfold cc_w_toSeen
  simp [box, addRow, alloc, stor, splice]
  show frz _ _ (39 + 1) _ = _
  simp [frz, frzL]

theorem w_toBucket (g : Good X) (l c r t : Int) (h : Hp) : Pc (pk X) 32 [.agg [I l, I c, I r, I t]] h = some (.agg [I l, I c, I r, I t], h) := by
  refine r_w_toBucket g ?_
  unfold cc_w_toBucket
  simp [box, addRow, alloc, stor, splice]
  show frz _ _ (39 + 1) _ = _
  simp [frz, frzL]

theorem w_toIntS (g : Good X) {v : AV} {l : List Int} (hs : SVI v l) (bl : l.length ≤ 2 ^ 20) (h : Hp) : Pc (pk X) 30 [v] h = some (.imm false (l.map fun n => [I n]), h) := by
  have hlen := hs.len (X := X)
  obtain ⟨e, s', h', he, hq⟩ := for_rule (b := evC (pk X).T (Pc (pk X)) L0_w_toIntS) l.length
    (fun i s h1 => i ≤ l.length ∧ ∃ j11, s = [(0, v), (2, .nilS), (3, .own h.next), (4, I i), (11, j11)] ∧ h1.rows h.next = some ⟨3, 1, fillC (fun n => [I n]) [I 0] l.length (l.take i)⟩ ∧ h1.lo = h.next)
    (fun e s h1 => ∃ ji j11, s = [(0, v), (2, .nilS), (3, .own h.next), (4, ji), (11, j11)] ∧ e = .exit 0 ∧ h1.rows h.next = some ⟨3, 1, l.map fun n => [I n]⟩)
    (s := [(0, v), (2, .nilS), (3, .own h.next), (4, I 0), (11, .lit undef)]) (h := { rows := updR h.rows h.next (some ⟨3, 1, fillC (fun n => [I n]) [I 0] l.length []⟩), next := h.next + 1, lo := h.next }) ⟨Nat.zero_le _, _, rfl, by simp⟩ (fun _ _ _ hI => hI.1) (by
      rintro i s h1 ⟨hi, j11, rfl, hr, hlo⟩
      unfold L0_w_toIntS
      by_cases hlt : i < l.length
      case neg =>
        have : i = l.length := by omega
        subst this
        rw [List.take_length, fillC_full _ _ rfl] at hr
        simp [hlen, hr]
      have hw2 := wadd (x := i) (y := 1) (by omega) (by omega)
      have hq : (l.take i).length = i := by simp; omega
      have hg := fillC_get (fun n => [I n]) [I 0] (n := l.length) (qs := l.take i) (by omega)
      have hst := fillC_set (fun n => [I n]) [I 0] (n := l.length) (qs := l.take i) (by omega) l[i]
      rw [hq] at hg hst
      rw [← List.take_succ_eq_append_getElem hlt] at hst
      have hfl := fillC_len (fun n : Int => [I n]) [I 0] (n := l.length) (qs := l.take i) (by omega)
      simp [hlen, hlt, hs.idx, hs.get, idxAddr, hr, hg, stor, hlo, splice, hst, hw2]
      omega)
  -- he, hq: ji, j11, rfl, fin
  obtain ⟨ji, j11, rfl, rfl, hr⟩ := hq
  refine r_w_toIntS g ?_
  unfold cc_w_toIntS
  have hb : (l.length : Int) ≤ 4294967296 := by omega
  have hz := frz_own_ints (n0 := h.next) (l := l) h' (Nat.le_refl _) hr rfl
  simp [hlen, makeSl, hb, addRow, fillC_nil (fun n : Int => [I n]), he, hz]
end Go.Proofs.Ev
end
section
/- The functions: the laws' own copies of slices, their sizes and comparisons. Printed by lawgen.py. -/
set_option maxHeartbeats 4000000
set_option maxRecDepth 100000
set_option linter.unusedVariables false
set_option linter.unusedSimpArgs false
namespace Go.Proofs.Ev
open Go Go.RowKit
variable {X : FuncId → Option (List AV → Hp → Option (AV × Hp))}

theorem sub_rule {l : Int} {n : Nat} (hl : 0 ≤ l) (hl2 : l ≤ 2 ^ 20) (hn : n ≤ 9223372036854775807) : IntKind.i64.wrap (l - n) = l - n := wsub (by omega) (by omega)
/-- What a size leaves: it is told whether something is left. -/
def Left (r : Int) : Prop := -1 ≤ r ∧ r ≤ 2 ^ 20

theorem w_toLinkS (g : Good X) {v : AV} {l : List (Int × Int)} (hs : SV v (l.map lk)) (bl : l.length ≤ 2 ^ 20) (h : Hp) : Pc (pk X) 70 [v] h = some (.imm false (l.map lk), h) := by
  have hlen : ∀ h, lenA (pk X).T h 22 v = some (I l.length) := fun h => by
    have := hs.len (X := X) 22 h (by simp [slT])
    simpa using this
  obtain ⟨e, s', h', he, hq⟩ := for_rule (b := evC (pk X).T (Pc (pk X)) L0_w_toLinkS) l.length
    (fun i s h1 => i ≤ l.length ∧ ∃ j11, s = [(0, v), (2, .nilS), (3, .own h.next), (4, I i), (11, j11)] ∧ h1.rows h.next = some ⟨109, 2, fillC lk [I 0, I 0] l.length (l.take i)⟩ ∧ h1.lo = h.next)
    (fun e s h1 => ∃ ji j11, s = [(0, v), (2, .nilS), (3, .own h.next), (4, ji), (11, j11)] ∧ e = .exit 0 ∧ h1.rows h.next = some ⟨109, 2, l.map lk⟩)
    (s := [(0, v), (2, .nilS), (3, .own h.next), (4, I 0), (11, .lit undef)]) (h := { rows := updR h.rows h.next (some ⟨109, 2, fillC lk [I 0, I 0] l.length []⟩), next := h.next + 1, lo := h.next }) ⟨Nat.zero_le _, _, rfl, by simp⟩ (fun _ _ _ hI => hI.1) (by
      rintro i s h1 ⟨hi, j11, rfl, hr, hlo⟩
      unfold L0_w_toLinkS
      by_cases hlt : i < l.length
      case neg =>
        have : i = l.length := by omega
        subst this
        rw [List.take_length, fillC_full _ _ rfl] at hr
        simp [hlen, hr]
      have hw2 := wadd (x := i) (y := 1) (by omega) (by omega)
      have hq : (l.take i).length = i := by simp; omega
      have hg := fillC_get lk [I 0, I 0] (n := l.length) (qs := l.take i) (by omega)
      have hst := fillC_set lk [I 0, I 0] (n := l.length) (qs := l.take i) (by omega) l[i]
      rw [hq] at hg hst
      rw [← List.take_succ_eq_append_getElem hlt] at hst
      have hfl := fillC_len lk [I 0, I 0] (n := l.length) (qs := l.take i) (by omega)
      have hat := fun h => hs.at_ (X := X) 22 (by simp) t_113 (k := i) (by simpa using hlt) (by simp) h
      have hT := w_toLink g l[i]
      simp [hlen, hlt, hat, hs.get, hT, idxAddr, hr, hg, stor, hlo, splice, hst, hw2]
      omega)
  -- he, hq: ji, j11, rfl, fin
  obtain ⟨ji, j11, rfl, rfl, hr⟩ := hq
  refine r_w_toLinkS g ?_
  unfold cc_w_toLinkS
  have hb : (l.length : Int) ≤ 4294967296 := by omega
  have hz : frz h' h.next 40 (.own h.next) = some (.imm false (l.map lk)) := by
    show frz h' h.next (39 + 1) _ = _
    simp only [frz, Nat.le_refl, if_true, hr]
    rw [show (39 : Nat) = 36 + 3 by rfl, frzEs_lits _ _ _ _ (by
      intro c hc x hx
      obtain ⟨b, _, rfl⟩ := List.mem_map.1 hc
      simp only [List.mem_cons, List.not_mem_nil, or_false] at hx
      rcases hx with rfl | rfl <;> exact ⟨_, rfl⟩)]
    rfl
  simp [hlen, makeSl, hb, addRow, fillC_nil lk, he, hz]

theorem w_toSeenS (g : Good X) {v : AV} {l : List Sn} (hs : SV v (l.map snc)) (bl : l.length ≤ 2 ^ 20) (h : Hp) : Pc (pk X) 33 [v] h = some (.imm false (l.map snc), h) := by
  have hlen : ∀ h, lenA (pk X).T h 29 v = some (I l.length) := fun h => by
    have := hs.len (X := X) 29 h (by simp [slT])
    simpa using this
  obtain ⟨e, s', h', he, hq⟩ := for_rule (b := evC (pk X).T (Pc (pk X)) L0_w_toSeenS) l.length
    (fun i s h1 => i ≤ l.length ∧ ∃ j11, s = [(0, v), (2, .nilS), (3, .own h.next), (4, I i), (11, j11)] ∧ h1.rows h.next = some ⟨89, 5, fillC snc [I 0, I 0, I 0, I 0, Bo false] l.length (l.take i)⟩ ∧ h1.lo = h.next)
    (fun e s h1 => ∃ ji j11, s = [(0, v), (2, .nilS), (3, .own h.next), (4, ji), (11, j11)] ∧ e = .exit 0 ∧ h1.rows h.next = some ⟨89, 5, l.map snc⟩)
    (s := [(0, v), (2, .nilS), (3, .own h.next), (4, I 0), (11, .lit undef)]) (h := { rows := updR h.rows h.next (some ⟨89, 5, fillC snc [I 0, I 0, I 0, I 0, Bo false] l.length []⟩), next := h.next + 1, lo := h.next }) ⟨Nat.zero_le _, _, rfl, by simp⟩ (fun _ _ _ hI => hI.1) (by
      rintro i s h1 ⟨hi, j11, rfl, hr, hlo⟩
      unfold L0_w_toSeenS
      by_cases hlt : i < l.length
      case neg =>
        have : i = l.length := by omega
        subst this
        rw [List.take_length, fillC_full _ _ rfl] at hr
        simp [hlen, hr]
      have hw2 := wadd (x := i) (y := 1) (by omega) (by omega)
      have hq : (l.take i).length = i := by simp; omega
      have hg := fillC_get snc [I 0, I 0, I 0, I 0, Bo false] (n := l.length) (qs := l.take i) (by omega)
      have hst := fillC_set snc [I 0, I 0, I 0, I 0, Bo false] (n := l.length) (qs := l.take i) (by omega) l[i]
      rw [hq] at hg hst
      rw [← List.take_succ_eq_append_getElem hlt] at hst
      have hfl := fillC_len snc [I 0, I 0, I 0, I 0, Bo false] (n := l.length) (qs := l.take i) (by omega)
      have hat := fun h => hs.at_ (X := X) 29 (by simp) t_98 (k := i) (by simpa using hlt) (by simp) h
      have hT := w_toSeen g l[i]
      simp [hlen, hlt, hat, hs.get, hT, idxAddr, hr, hg, stor, hlo, splice, hst, hw2]
      omega)
  -- he, hq: ji, j11, rfl, fin
  obtain ⟨ji, j11, rfl, rfl, hr⟩ := hq
  refine r_w_toSeenS g ?_
  unfold cc_w_toSeenS
  have hb : (l.length : Int) ≤ 4294967296 := by omega
  have hz : frz h' h.next 40 (.own h.next) = some (.imm false (l.map snc)) := by
    show frz h' h.next (39 + 1) _ = _
    simp only [frz, Nat.le_refl, if_true, hr]
    rw [show (39 : Nat) = 36 + 3 by rfl, frzEs_lits _ _ _ _ (by
      intro c hc x hx
      obtain ⟨b, _, rfl⟩ := List.mem_map.1 hc
      simp only [List.mem_cons, List.not_mem_nil, or_false] at hx
      rcases hx with rfl | rfl | rfl | rfl | rfl <;> exact ⟨_, rfl⟩)]
    rfl
  simp [hlen, makeSl, hb, addRow, fillC_nil snc, he, hz]

theorem w_szIntS (g : Good X) {v : AV} {l : List Int} (hs : SV v (l.map (fun n => [I n]))) {n : Nat} (hn : l.length = n) (bl : n ≤ 9223372036854775807) (left : Int) (h0 : 0 ≤ left) (h1 : left ≤ 2 ^ 20) (h : Hp) :
    ∃ r, Pc (pk X) 23 [v, I left] h = some (I r, h) ∧ Left r ∧ (0 ≤ r → n ≤ 2 ^ 20) := by
  have hlen : ∀ h, lenA (pk X).T h 25 v = some (I n) := fun h => by
    have := hs.len (X := X) 25 h (by simp [slT])
    simpa [hn] using this
  have hw := sub_rule h0 h1 bl
  by_cases hc : left - n < 0
  · refine ⟨-1, r_w_szIntS g ?_, ⟨by omega, by omega⟩, by omega⟩
    unfold cc_w_szIntS
    simp [hlen, hw, hc]
  · refine ⟨left - n, r_w_szIntS g ?_, ⟨by omega, by omega⟩, by omega⟩
    unfold cc_w_szIntS
    have hc' : ¬ left < n := by omega
    simp [hlen, hw, hc, hc']

theorem w_szLinkS (g : Good X) {v : AV} {l : List (Int × Int)} (hs : SV v (l.map lk)) {n : Nat} (hn : l.length = n) (bl : n ≤ 9223372036854775807) (left : Int) (h0 : 0 ≤ left) (h1 : left ≤ 2 ^ 20) (h : Hp) :
    ∃ r, Pc (pk X) 57 [v, I left] h = some (I r, h) ∧ Left r ∧ (0 ≤ r → n ≤ 2 ^ 20) := by
  have hlen : ∀ h, lenA (pk X).T h 22 v = some (I n) := fun h => by
    have := hs.len (X := X) 22 h (by simp [slT])
    simpa [hn] using this
  have hw := sub_rule h0 h1 bl
  by_cases hc : left - n < 0
  · refine ⟨-1, r_w_szLinkS g ?_, ⟨by omega, by omega⟩, by omega⟩
    unfold cc_w_szLinkS
    simp [hlen, hw, hc]
  · refine ⟨left - n, r_w_szLinkS g ?_, ⟨by omega, by omega⟩, by omega⟩
    unfold cc_w_szLinkS
    have hc' : ¬ left < n := by omega
    simp [hlen, hw, hc, hc']

theorem w_szSeenS (g : Good X) {v : AV} {l : List Sn} (hs : SV v (l.map snc)) {n : Nat} (hn : l.length = n) (bl : n ≤ 9223372036854775807) (left : Int) (h0 : 0 ≤ left) (h1 : left ≤ 2 ^ 20) (h : Hp) :
    ∃ r, Pc (pk X) 25 [v, I left] h = some (I r, h) ∧ Left r ∧ (0 ≤ r → n ≤ 2 ^ 20) := by
  have hlen : ∀ h, lenA (pk X).T h 29 v = some (I n) := fun h => by
    have := hs.len (X := X) 29 h (by simp [slT])
    simpa [hn] using this
  have hw := sub_rule h0 h1 bl
  by_cases hc : left - n < 0
  · refine ⟨-1, r_w_szSeenS g ?_, ⟨by omega, by omega⟩, by omega⟩
    unfold cc_w_szSeenS
    simp [hlen, hw, hc]
  · refine ⟨left - n, r_w_szSeenS g ?_, ⟨by omega, by omega⟩, by omega⟩
    unfold cc_w_szSeenS
    have hc' : ¬ left < n := by omega
    simp [hlen, hw, hc, hc']

theorem w_eqLink (g : Good X) (x : (Int × Int)) (h : Hp) : Pc (pk X) 113 [.agg (lk x), .agg (lk x)] h = some (Bo true, h) := by
  refine r_w_eqLink g ?_
  unfold cc_w_eqLink
  simp [box, addRow]

theorem w_eqSeen (g : Good X) (x : Sn) (h : Hp) : Pc (pk X) 86 [.agg (snc x), .agg (snc x)] h = some (Bo true, h) := by
  refine r_w_eqSeen g ?_
  unfold cc_w_eqSeen
  simp [box, addRow]

theorem w_eqIntS (g : Good X) {v v' : AV} {l : List Int} (hs : SV v (l.map (fun n => [I n]))) (hs' : SV v' (l.map (fun n => [I n]))) (bl : l.length ≤ 2 ^ 20) (h : Hp) : Pc (pk X) 38 [v, v'] h = some (Bo true, h) := by
  have lenV : ∀ {v}, SV v (l.map (fun n => [I n])) → ∀ h, lenA (pk X).T h 25 v = some (I l.length) := fun hs h => by
    have := hs.len (X := X) 25 h (by simp [slT])
    simpa using this
  have hl1 := lenV hs
  have hl2 := lenV hs'
  refine r_w_eqIntS g ?_
  unfold cc_w_eqIntS
  obtain ⟨e, s', h', he, hq⟩ := for_rule (b := evC (pk X).T (Pc (pk X)) L0_w_eqIntS) l.length
    (fun i s h1 => i ≤ l.length ∧ h1 = { h with lo := h.next } ∧ ∃ j14 j25, s = [(0, v), (1, v'), (4, Bo false), (5, I i), (10, Bo false), (14, j14), (25, j25)])
    (fun e s h1 => h1 = { h with lo := h.next } ∧ ∃ ji j14 j25, s = [(0, v), (1, v'), (4, Bo false), (5, ji), (10, Bo false), (14, j14), (25, j25)] ∧ e = .exit 0)
    (s := [(0, v), (1, v'), (4, Bo false), (5, I 0), (10, Bo false), (14, .lit undef), (25, .lit undef)]) (h := { h with lo := h.next }) ⟨Nat.zero_le _, rfl, _, _, rfl⟩ (fun _ _ _ hI => hI.1) (by
      rintro i s h1 ⟨hi, rfl, j14, j25, rfl⟩
      unfold L0_w_eqIntS
      by_cases hlt : i < l.length
      case neg =>
        have : i = l.length := by omega
        subst this
        simp [hl1]
      have hw2 := wadd (x := i) (y := 1) (by omega) (by omega)
      have hat := fun h => hs.at_ (X := X) 25 (by simp) t_3 (k := i) (by simpa using hlt) (by simp) h
      have hat' := fun h => hs'.at_ (X := X) 25 (by simp) t_3 (k := i) (by simpa using hlt) (by simp) h
      simp [hl1, hlt, hat, hat', hs.get, hs'.get, hw2]
      omega)
  -- he, hq: rfl, ji, j14, j25, rfl, fin
  obtain ⟨rfl, ji, j14, j25, rfl, rfl⟩ := hq
  simp [hl1, hl2, he]

theorem w_eqLinkS (g : Good X) {v v' : AV} {l : List (Int × Int)} (hs : SV v (l.map lk)) (hs' : SV v' (l.map lk)) (bl : l.length ≤ 2 ^ 20) (h : Hp) : Pc (pk X) 84 [v, v'] h = some (Bo true, h) := by
  have lenV : ∀ {v}, SV v (l.map lk) → ∀ h, lenA (pk X).T h 34 v = some (I l.length) := fun hs h => by
    have := hs.len (X := X) 34 h (by simp [slT])
    simpa using this
  have hl1 := lenV hs
  have hl2 := lenV hs'
  refine r_w_eqLinkS g ?_
  unfold cc_w_eqLinkS
  obtain ⟨e, s', h', he, hq⟩ := for_rule (b := evC (pk X).T (Pc (pk X)) L0_w_eqLinkS) l.length
    (fun i s h1 => i ≤ l.length ∧ h1 = { h with lo := h.next } ∧ ∃ j14 j26, s = [(0, v), (1, v'), (4, Bo false), (5, I i), (10, Bo false), (14, j14), (26, j26)])
    (fun e s h1 => h1 = { h with lo := h.next } ∧ ∃ ji j14 j26, s = [(0, v), (1, v'), (4, Bo false), (5, ji), (10, Bo false), (14, j14), (26, j26)] ∧ e = .exit 0)
    (s := [(0, v), (1, v'), (4, Bo false), (5, I 0), (10, Bo false), (14, .lit undef), (26, .lit undef)]) (h := { h with lo := h.next }) ⟨Nat.zero_le _, rfl, _, _, rfl⟩ (fun _ _ _ hI => hI.1) (by
      rintro i s h1 ⟨hi, rfl, j14, j26, rfl⟩
      unfold L0_w_eqLinkS
      by_cases hlt : i < l.length
      case neg =>
        have : i = l.length := by omega
        subst this
        simp [hl1]
      have hw2 := wadd (x := i) (y := 1) (by omega) (by omega)
      have hat := fun h => hs.at_ (X := X) 34 (by simp) t_109 (k := i) (by simpa using hlt) (by simp) h
      have hat' := fun h => hs'.at_ (X := X) 34 (by simp) t_109 (k := i) (by simpa using hlt) (by simp) h
      have hE := w_eqLink g l[i]
      simp [hl1, hlt, hat, hat', hs.get, hs'.get, hE, hw2]
      omega)
  -- he, hq: rfl, ji, j14, j26, rfl, fin
  obtain ⟨rfl, ji, j14, j26, rfl, rfl⟩ := hq
  simp [hl1, hl2, he]

theorem w_eqSeenS (g : Good X) {v v' : AV} {l : List Sn} (hs : SV v (l.map snc)) (hs' : SV v' (l.map snc)) (bl : l.length ≤ 2 ^ 20) (h : Hp) : Pc (pk X) 41 [v, v'] h = some (Bo true, h) := by
  have lenV : ∀ {v}, SV v (l.map snc) → ∀ h, lenA (pk X).T h 39 v = some (I l.length) := fun hs h => by
    have := hs.len (X := X) 39 h (by simp [slT])
    simpa using this
  have hl1 := lenV hs
  have hl2 := lenV hs'
  refine r_w_eqSeenS g ?_
  unfold cc_w_eqSeenS
  obtain ⟨e, s', h', he, hq⟩ := for_rule (b := evC (pk X).T (Pc (pk X)) L0_w_eqSeenS) l.length
    (fun i s h1 => i ≤ l.length ∧ h1 = { h with lo := h.next } ∧ ∃ j14 j26, s = [(0, v), (1, v'), (4, Bo false), (5, I i), (10, Bo false), (14, j14), (26, j26)])
    (fun e s h1 => h1 = { h with lo := h.next } ∧ ∃ ji j14 j26, s = [(0, v), (1, v'), (4, Bo false), (5, ji), (10, Bo false), (14, j14), (26, j26)] ∧ e = .exit 0)
    (s := [(0, v), (1, v'), (4, Bo false), (5, I 0), (10, Bo false), (14, .lit undef), (26, .lit undef)]) (h := { h with lo := h.next }) ⟨Nat.zero_le _, rfl, _, _, rfl⟩ (fun _ _ _ hI => hI.1) (by
      rintro i s h1 ⟨hi, rfl, j14, j26, rfl⟩
      unfold L0_w_eqSeenS
      by_cases hlt : i < l.length
      case neg =>
        have : i = l.length := by omega
        subst this
        simp [hl1]
      have hw2 := wadd (x := i) (y := 1) (by omega) (by omega)
      have hat := fun h => hs.at_ (X := X) 39 (by simp) t_89 (k := i) (by simpa using hlt) (by simp) h
      have hat' := fun h => hs'.at_ (X := X) 39 (by simp) t_89 (k := i) (by simpa using hlt) (by simp) h
      have hE := w_eqSeen g l[i]
      simp [hl1, hlt, hat, hat', hs.get, hs'.get, hE, hw2]
      omega)
  -- he, hq: rfl, ji, j14, j26, rfl, fin
  obtain ⟨rfl, ji, j14, j26, rfl, rfl⟩ := hq
  simp [hl1, hl2, he]
end Go.Proofs.Ev
end
section
/- The functions: the laws' own copies of worlds. -/
set_option maxHeartbeats 8000000
set_option maxRecDepth 100000
set_option linter.unusedVariables false
set_option linter.unusedSimpArgs false
namespace Go.Proofs.Ev
open Go Go.RowKit
variable {X : FuncId → Option (List AV → Hp → Option (AV × Hp))}

/-- A value that a freeze leaves as it is. -/
def Fz (d : Nat) (v : AV) : Prop := ∀ h n k, frz h n (k + d) v = some v
theorem Fz.lit (v : Value) : Fz 1 (.lit v) := fun h n k => by simp [frz]
theorem Fz.up {d e : Nat} {v : AV} (z : Fz d v) (h : d ≤ e) : Fz e v := fun hp n k => by
  have := z hp n (k + (e - d))
  rwa [show k + (e - d) + d = k + e by omega] at this
theorem Fz.list {d : Nat} {cs : List AV} (h : ∀ c ∈ cs, Fz d c) (hp : Hp) (n k : Nat) : frzL hp n (k + d + 1) cs = some cs := by
  induction cs with
  | nil => simp [frzL]
  | cons c cs ih =>
    have h1 := h c (List.mem_cons_self ..) hp n k
    have h2 := ih (fun x hx => h x (List.mem_cons_of_mem _ hx))
    simp [frzL, h1, h2]
theorem Fz.agg {d : Nat} {cs : List AV} (h : ∀ c ∈ cs, Fz d c) : Fz (d + 2) (.agg cs) := fun hp n k => by
  show frz hp n (k + d + 1 + 1) _ = _
  simp [frz, Fz.list h hp n k]
theorem Fz.es {d : Nat} : ∀ {es : List (List AV)}, (∀ e ∈ es, ∀ c ∈ e, Fz d c) → ∀ (hp : Hp) (n k : Nat), frzEs hp n (k + d + 2) es = some es
  | [], _, hp, n, k => by simp [frzEs]
  | e :: es, h, hp, n, k => by
    have h1 := Fz.list (h e (List.mem_cons_self ..)) hp n k
    have h2 := Fz.es (fun x hx => h x (List.mem_cons_of_mem _ hx)) hp n k
    simp [frzEs, h1, h2]
theorem Fz.imm {d : Nat} {x : Bool} {es : List (List AV)} (h : ∀ e ∈ es, ∀ c ∈ e, Fz d c) : Fz (d + 3) (.imm x es) := fun hp n k => by
  show frz hp n (k + d + 2 + 1) _ = _
  simp [frz, Fz.es h hp n k]
theorem Fz.own {d : Nat} {hp : Hp} {id n : Nat} {ty : TypeId} {sz : Nat} {es : List (List AV)} (h : ∀ e ∈ es, ∀ c ∈ e, Fz d c) (hn : n ≤ id) (hr : hp.rows id = some ⟨ty, sz, es⟩) (k : Nat) : frz hp n (k + d + 3) (.own id) = some (.imm false es) := by
  show frz hp n (k + d + 2 + 1) _ = _
  simp [frz, hn, hr, Fz.es h hp n k]

/-- Rows of ints, in one form. -/
abbrev ci (l : List Int) : AV := .imm false (l.map fun n => [I n])
theorem ci_ok (l : List Int) : SVI (ci l) l := .inr ⟨false, rfl⟩
theorem Fz.ci (l : List Int) : Fz 4 (ci l) := Fz.imm (d := 1) (fun e he c hc => by
  obtain ⟨n, _, rfl⟩ := List.mem_map.1 he
  obtain rfl := List.mem_singleton.1 hc
  exact Fz.lit _)
theorem Fz.lks (l : List (Int × Int)) : Fz 4 (.imm false (l.map lk)) := Fz.imm (d := 1) (fun e he c hc => by
  obtain ⟨n, _, rfl⟩ := List.mem_map.1 he
  simp only [List.mem_cons, List.not_mem_nil, or_false] at hc
  rcases hc with rfl | rfl <;> exact Fz.lit _)
theorem Fz.sns (l : List Sn) : Fz 4 (.imm false (l.map snc)) := Fz.imm (d := 1) (fun e he c hc => by
  obtain ⟨n, _, rfl⟩ := List.mem_map.1 he
  simp only [List.mem_cons, List.not_mem_nil, or_false] at hc
  rcases hc with rfl | rfl | rfl | rfl | rfl <;> exact Fz.lit _)

def cp (p : Prb) : Prb := { p with v := ci p.path }
theorem Fz.prs (l : List Prb) : Fz 7 (.imm false ((l.map cp).map prc)) := Fz.imm (d := 4) (fun e he c hc => by
  obtain ⟨n, hn, rfl⟩ := List.mem_map.1 he
  obtain ⟨p, _, rfl⟩ := List.mem_map.1 hn
  simp only [prc, List.mem_cons, List.not_mem_nil, or_false] at hc
  rcases hc with rfl | rfl | rfl
  · exact (Fz.lit _).up (by omega)
  · exact (Fz.lit _).up (by omega)
  · exact Fz.ci _)

theorem w_toProbe (g : Good X) (x : Prb) (hx : SVI x.v x.path) (bx : x.path.length ≤ 2 ^ 20) (h : Hp) : Pc (pk X) 71 [.agg (prc x)] h = some (.agg (prc (cp x)), h) := by
  refine r_w_toProbe g ?_
  unfold cc_w_toProbe
  have o := hx.one
  have hT := w_toIntS g hx bx
  have hz : ∀ h1, frz h1 h.next 40 (.agg [I x.a, I x.b, ci x.path]) = some (.agg [I x.a, I x.b, ci x.path]) := fun h1 => (Fz.agg (d := 4) (by
    intro c hc
    simp only [List.mem_cons, List.not_mem_nil, or_false] at hc
    rcases hc with rfl | rfl | rfl
    · exact (Fz.lit _).up (by omega)
    · exact (Fz.lit _).up (by omega)
    · exact Fz.ci _)) h1 h.next 34
  simp [box, addRow, alloc, stor, splice, o, hT, hz, cp]

theorem w_toProbeS (g : Good X) {v : AV} {l : List Prb} (hs : SV v (l.map prc)) (hp : ∀ p ∈ l, SVI p.v p.path ∧ p.path.length ≤ 2 ^ 20) (bl : l.length ≤ 2 ^ 20) (h : Hp) : Pc (pk X) 31 [v] h = some (.imm false ((l.map cp).map prc), h) := by
  have hlen : ∀ h, lenA (pk X).T h 26 v = some (I l.length) := fun h => by
    have := hs.len (X := X) 26 h (by simp [slT])
    simpa using this
  obtain ⟨e, s', h', he, hq⟩ := for_rule (b := evC (pk X).T (Pc (pk X)) L0_w_toProbeS) l.length
    (fun i s h1 => i ≤ l.length ∧ ∃ j11, s = [(0, v), (2, .nilS), (3, .own h.next), (4, I i), (11, j11)] ∧ h1.rows h.next = some ⟨91, 3, fillC prc [I 0, I 0, .nilS] l.length ((l.map cp).take i)⟩ ∧ h1.lo = h.next)
    (fun e s h1 => ∃ ji j11, s = [(0, v), (2, .nilS), (3, .own h.next), (4, ji), (11, j11)] ∧ e = .exit 0 ∧ h1.rows h.next = some ⟨91, 3, (l.map cp).map prc⟩)
    (s := [(0, v), (2, .nilS), (3, .own h.next), (4, I 0), (11, .lit undef)]) (h := { rows := updR h.rows h.next (some ⟨91, 3, fillC prc [I 0, I 0, .nilS] l.length []⟩), next := h.next + 1, lo := h.next }) ⟨Nat.zero_le _, .lit undef, rfl, by simp only [List.take_zero, updR_same], rfl⟩ (fun _ _ _ hI => hI.1) (by
      rintro i s h1 ⟨hi, j11, rfl, hr, hlo⟩
      unfold L0_w_toProbeS
      by_cases hlt : i < l.length
      case neg =>
        have : i = l.length := by omega
        subst this
        rw [List.take_of_length_le (by simp), fillC_full _ _ (by simp)] at hr
        simp [hlen]
        rw [hr]
        simp
      have hlt' : i < (l.map cp).length := by simpa using hlt
      have hw2 := wadd (x := i) (y := 1) (by omega) (by omega)
      have hq : ((l.map cp).take i).length = i := by simp; omega
      have hg := fillC_get prc [I 0, I 0, .nilS] (n := l.length) (qs := (l.map cp).take i) (by omega)
      have hst := fillC_set prc [I 0, I 0, .nilS] (n := l.length) (qs := (l.map cp).take i) (by omega) (l.map cp)[i]
      rw [hq] at hg hst
      rw [← List.take_succ_eq_append_getElem hlt'] at hst
      have hfl := fillC_len prc [I 0, I 0, .nilS] (n := l.length) (qs := (l.map cp).take i) (by omega)
      have hat := fun h => hs.at_ (X := X) 26 (by simp) t_80 (k := i) (by simpa using hlt) (by simp) h
      have hT := w_toProbe g l[i] (hp _ (List.getElem_mem hlt)).1 (hp _ (List.getElem_mem hlt)).2
      have hone : AV.one (cp l[i]).v = true := rfl
      have hci : (l.map cp)[i] = cp l[i] := by simp
      rw [hci] at hst
      generalize hF : fillC prc [I 0, I 0, .nilS] l.length ((l.map cp).take i) = F at *
      generalize hF2 : fillC prc [I 0, I 0, .nilS] l.length ((l.map cp).take (i + 1)) = F2 at *
      simp [hlen, hlt, hat, hs.get, hT, idxAddr, hr, hg, stor, hlo, splice, hw2, hone, hst]
      omega)
  -- he, hq: ji, j11, rfl, fin
  obtain ⟨ji, j11, rfl, rfl, hr⟩ := hq
  refine r_w_toProbeS g ?_
  unfold cc_w_toProbeS
  have hb : (l.length : Int) ≤ 4294967296 := by omega
  have hz : frz h' h.next 40 (.own h.next) = some (.imm false ((l.map cp).map prc)) := Fz.own (d := 4) (fun e he c hc => by
    obtain ⟨n, hn, rfl⟩ := List.mem_map.1 he
    obtain ⟨p, _, rfl⟩ := List.mem_map.1 hn
    simp only [prc, List.mem_cons, List.not_mem_nil, or_false] at hc
    rcases hc with rfl | rfl | rfl
    · exact (Fz.lit _).up (by omega)
    · exact (Fz.lit _).up (by omega)
    · exact Fz.ci _) (Nat.le_refl _) hr 33
  simp [hlen, makeSl, hb, addRow, fillC_nil prc, he, hz]
end Go.Proofs.Ev
end
section
/- The functions: the laws' own worlds; the law NextForFaults. -/
set_option maxHeartbeats 8000000
set_option maxRecDepth 100000
set_option linter.unusedVariables false
set_option linter.unusedSimpArgs false
namespace Go.Proofs.Ev
open Go Go.RowKit
variable {X : FuncId → Option (List AV → Hp → Option (AV × Hp))}

theorem w_szProbe (g : Good X) (x : Prb) (hx : SVI x.v x.path) (bl : x.path.length ≤ 9223372036854775807) (left : Int) (h0 : 0 ≤ left) (h1 : left ≤ 2 ^ 20) (h : Hp) :
    ∃ r, Pc (pk X) 58 [.agg (prc x), I left] h = some (I r, h) ∧ Left r ∧ (0 ≤ r → x.path.length ≤ 2 ^ 20) := by
  have o := hx.one
  obtain ⟨r, hr, hl, hb⟩ := w_szIntS g hx rfl bl left h0 h1 { rows := updR h.rows h.next (some ⟨80, 3, [prc x]⟩), next := h.next + 1, lo := h.next }
  refine ⟨r, r_w_szProbe g ?_, hl, hb⟩
  unfold cc_w_szProbe
  by_cases hc : r < 0
  · have : r = -1 := by unfold Left at hl; omega
    subst this
    simp [box, addRow, o, hr]
  · have hc' : ¬ r < 0 := hc
    simp [box, addRow, o, hr, hc']

theorem w_szProbeS (g : Good X) {v : AV} {l : List Prb} (hs : SV v (l.map prc)) (hp : ∀ p ∈ l, SVI p.v p.path ∧ p.path.length ≤ 9223372036854775807) (bl : l.length ≤ 9223372036854775807) (left : Int) (h0 : 0 ≤ left) (h1 : left ≤ 2 ^ 20) (h : Hp) :
    ∃ r, Pc (pk X) 24 [v, I left] h = some (I r, h) ∧ Left r ∧ (0 ≤ r → l.length ≤ 2 ^ 20 ∧ ∀ p ∈ l, p.path.length ≤ 2 ^ 20) := by
  have hlen : ∀ h, lenA (pk X).T h 26 v = some (I l.length) := fun h => by
    have := hs.len (X := X) 26 h (by simp [slT])
    simpa using this
  have hw := sub_rule h0 h1 bl
  by_cases hc : left - l.length < 0
  · refine ⟨-1, r_w_szProbeS g ?_, ⟨by omega, by omega⟩, by omega⟩
    unfold cc_w_szProbeS
    simp [hlen, hw, hc]
  have bl' : l.length ≤ 2 ^ 20 := by omega
  have hc' : ¬ left < l.length := by omega
  obtain ⟨e, s', h', he, hq⟩ := for_rule (b := evC (pk X).T (Pc (pk X)) L0_w_szProbeS) l.length
    (fun i s h1 => i ≤ l.length ∧ h1 = { h with lo := h.next } ∧ ∃ lf r4 j15 j25, s = [(0, v), (1, I lf), (4, I r4), (5, I i), (11, Bo false), (15, j15), (25, j25)] ∧ r4 = 0 ∧ 0 ≤ lf ∧ lf ≤ 2 ^ 20 ∧ ∀ j (hj : j < i) (hl : j < l.length), l[j].path.length ≤ 2 ^ 20)
    (fun e s h1 => h1 = { h with lo := h.next } ∧ ∃ ji lf r4 j15 j25, s = [(0, v), (1, I lf), (4, I r4), (5, ji), (11, Bo false), (15, j15), (25, j25)] ∧ ((e = .ret ∧ r4 = -1) ∨ (e = .exit 0 ∧ 0 ≤ lf ∧ lf ≤ 2 ^ 20 ∧ ∀ p ∈ l, p.path.length ≤ 2 ^ 20)))
    (s := [(0, v), (1, I (left - l.length)), (4, I 0), (5, I 0), (11, Bo false), (15, .lit undef), (25, .lit undef)]) (h := { h with lo := h.next }) ⟨Nat.zero_le _, rfl, left - l.length, 0, .lit undef, .lit undef, rfl, rfl, by omega, by omega, fun j hj => by omega⟩ (fun _ _ _ hI => hI.1) (by
      rintro i s h1 ⟨hi, rfl, lf, r4, j15, j25, rfl, hr4, hf0, hf1, hfp⟩
      unfold L0_w_szProbeS
      subst hr4
      by_cases hlt : i < l.length
      case neg =>
        have : i = l.length := by omega
        subst this
        simp [hlen]
        refine ⟨_, _, ⟨rfl, rfl⟩, hf0, hf1, fun p hp => ?_⟩
        obtain ⟨j, hj, rfl⟩ := List.mem_iff_getElem.1 hp
        exact hfp j hj hj
      have hw2 := wadd (x := i) (y := 1) (by omega) (by omega)
      have hat := fun h => hs.at_ (X := X) 26 (by simp) t_80 (k := i) (by simpa using hlt) (by simp) h
      have hpi := hp _ (List.getElem_mem hlt)
      obtain ⟨r, hr, hl, hb⟩ := w_szProbe g l[i] hpi.1 hpi.2 lf hf0 hf1 { h with lo := h.next }
      by_cases hr0 : r < 0
      · simp [hlen, hlt, hat, hs.get, hr, hr0]
      · have hb' := hb (by omega)
        simp [hlen, hlt, hat, hs.get, hr, hr0, hw2]
        refine ⟨by omega, _, _, ⟨rfl, rfl⟩, rfl, by omega, hl.2, fun j hj hjl => ?_⟩
        by_cases e : j = i
        · subst e; exact hb'
        · exact hfp j (by omega) hjl)
  -- he, hq: rfl, ji, lf, r4, j15, j25, rfl, fin
  obtain ⟨rfl, ji, lf, r4, j15, j25, rfl, hq⟩ := hq
  rcases hq with ⟨rfl, rfl⟩ | ⟨rfl, hf0, hf1, hfp⟩
  · refine ⟨-1, r_w_szProbeS g ?_, ⟨by omega, by omega⟩, by omega⟩
    unfold cc_w_szProbeS
    simp [hlen, hw, hc, hc', he]
  · refine ⟨lf, r_w_szProbeS g ?_, ⟨by omega, hf1⟩, fun _ => ⟨bl', hfp⟩⟩
    unfold cc_w_szProbeS
    simp [hlen, hw, hc, hc', he]

theorem w_eqProbe (g : Good X) (x : Prb) (hx : SVI x.v x.path) (bl : x.path.length ≤ 2 ^ 20) (h : Hp) : Pc (pk X) 85 [.agg (prc x), .agg (prc x)] h = some (Bo true, h) := by
  refine r_w_eqProbe g ?_
  unfold cc_w_eqProbe
  have o := hx.one
  have hE := w_eqIntS g hx hx bl
  simp [box, addRow, o, hE]

theorem w_eqProbeS (g : Good X) {v : AV} {l : List Prb} (hs : SV v (l.map prc)) (hp : ∀ p ∈ l, SVI p.v p.path ∧ p.path.length ≤ 2 ^ 20) (bl : l.length ≤ 2 ^ 20) (h : Hp) : Pc (pk X) 39 [v, v] h = some (Bo true, h) := by
  have hl1 := pr_len (X := X) hs
  refine r_w_eqProbeS g ?_
  unfold cc_w_eqProbeS
  obtain ⟨e, s', h', he, hq⟩ := for_rule (b := evC (pk X).T (Pc (pk X)) L0_w_eqProbeS) l.length
    (fun i s h1 => i ≤ l.length ∧ h1 = { h with lo := h.next } ∧ ∃ j14 j26, s = [(0, v), (1, v), (4, Bo false), (5, I i), (10, Bo false), (14, j14), (26, j26)])
    (fun e s h1 => h1 = { h with lo := h.next } ∧ ∃ ji j14 j26, s = [(0, v), (1, v), (4, Bo false), (5, ji), (10, Bo false), (14, j14), (26, j26)] ∧ e = .exit 0)
    (s := [(0, v), (1, v), (4, Bo false), (5, I 0), (10, Bo false), (14, .lit undef), (26, .lit undef)]) (h := { h with lo := h.next }) ⟨Nat.zero_le _, rfl, _, _, rfl⟩ (fun _ _ _ hI => hI.1) (by
      rintro i s h1 ⟨hi, rfl, j14, j26, rfl⟩
      unfold L0_w_eqProbeS
      by_cases hlt : i < l.length
      case neg =>
        have : i = l.length := by omega
        subst this
        simp [hl1]
      have hw2 := wadd (x := i) (y := 1) (by omega) (by omega)
      have hat := pr_at (X := X) hs hlt
      have hpi := hp _ (List.getElem_mem hlt)
      have hE := w_eqProbe g l[i] hpi.1 hpi.2
      simp [hl1, hlt, hat, hs.get, hE, hw2]
      omega)
  -- he, hq: rfl, ji, j14, j26, rfl, fin
  obtain ⟨rfl, ji, j14, j26, rfl, rfl⟩ := hq
  simp [hl1, he]

theorem w_toNet (g : Good X) (n : Int) {v : AV} {l : List (Int × Int)} (hs : SV v (l.map lk)) (bl : l.length ≤ 2 ^ 20) (h : Hp) : Pc (pk X) 29 [.agg [I n, v]] h = some (.agg [I n, .imm false (l.map lk)], h) := by
  refine r_w_toNet g ?_
  unfold cc_w_toNet
  have o := hs.one
  have hT := w_toLinkS g hs bl
  have hz : ∀ h1, frz h1 h.next 40 (.agg [I n, .imm false (l.map lk)]) = some (.agg [I n, .imm false (l.map lk)]) := fun h1 => (Fz.agg (d := 4) (by
    intro c hc
    simp only [List.mem_cons, List.not_mem_nil, or_false] at hc
    rcases hc with rfl | rfl
    · exact (Fz.lit _).up (by omega)
    · exact Fz.lks _)) h1 h.next 34
  simp [box, addRow, alloc, stor, splice, o, hT, hz]

theorem w_szNet (g : Good X) (n : Int) {v : AV} {l : List (Int × Int)} (hs : SV v (l.map lk)) (bl : l.length ≤ 9223372036854775807) (left : Int) (h0 : 0 ≤ left) (h1 : left ≤ 2 ^ 20) (h : Hp) :
    ∃ r, Pc (pk X) 22 [.agg [I n, v], I left] h = some (I r, h) ∧ Left r ∧ (0 ≤ r → l.length ≤ 2 ^ 20) := by
  have o := hs.one
  obtain ⟨r, hr, hl, hb⟩ := w_szLinkS g hs rfl bl left h0 h1 { rows := updR h.rows h.next (some ⟨24, 2, [[I n, v]]⟩), next := h.next + 1, lo := h.next }
  refine ⟨r, r_w_szNet g ?_, hl, hb⟩
  unfold cc_w_szNet
  by_cases hc : r < 0
  · have : r = -1 := by unfold Left at hl; omega
    subst this
    simp [box, addRow, o, hr]
  · have hc' : ¬ r < 0 := hc
    simp [box, addRow, o, hr, hc']

theorem w_eqNet (g : Good X) (n : Int) {v : AV} {l : List (Int × Int)} (hs : SV v (l.map lk)) (bl : l.length ≤ 2 ^ 20) (h : Hp) : Pc (pk X) 37 [.agg [I n, v], .agg [I n, v]] h = some (Bo true, h) := by
  refine r_w_eqNet g ?_
  unfold cc_w_eqNet
  have o := hs.one
  have hE := w_eqLinkS g hs hs bl
  simp [box, addRow, o, hE]

theorem w_eqBucket (g : Good X) (l c r t : Int) (h : Hp) : Pc (pk X) 40 [.agg [I l, I c, I r, I t], .agg [I l, I c, I r, I t]] h = some (Bo true, h) := by
  refine r_w_eqBucket g ?_
  unfold cc_w_eqBucket
  simp [box, addRow]

/-- A world as it comes in. -/
structure WRaw (w : Wd) (v : Wv) : Prop where
  l : SV v.l (w.links.map lk)
  d : SVI v.d w.delays
  dn : SVI v.dn w.down
  p : SV v.p (w.probes.map prc)
  pp : ∀ p ∈ w.probes, SVI p.v p.path ∧ p.path.length ≤ 9223372036854775807
  o : SVI v.o w.owners
  li : SVI v.li w.liars
  s : SV v.s (w.seen.map snc)
  bl : w.links.length ≤ 9223372036854775807
  bd : w.delays.length ≤ 9223372036854775807
  bdn : w.down.length ≤ 9223372036854775807
  bp : w.probes.length ≤ 9223372036854775807
  bo : w.owners.length ≤ 9223372036854775807
  bli : w.liars.length ≤ 9223372036854775807
  bs : w.seen.length ≤ 9223372036854775807
  bn : -2 ^ 63 ≤ w.n ∧ w.n < 2 ^ 63
/-- Nothing of it is long. -/
structure WSmall (w : Wd) : Prop where
  bl : w.links.length ≤ 2 ^ 20
  bd : w.delays.length ≤ 2 ^ 20
  bdn : w.down.length ≤ 2 ^ 20
  bp : w.probes.length ≤ 2 ^ 20
  bpp : ∀ p ∈ w.probes, p.path.length ≤ 2 ^ 20
  bo : w.owners.length ≤ 2 ^ 20
  bli : w.liars.length ≤ 2 ^ 20
  bs : w.seen.length ≤ 2 ^ 20

def cw (w : Wd) : Wd := { w with probes := w.probes.map cp }
def cv (w : Wd) : Wv := ⟨.imm false (w.links.map lk), ci w.delays, ci w.down, .imm false ((w.probes.map cp).map prc), ci w.owners, ci w.liars, .imm false (w.seen.map snc)⟩

theorem cw_ok {w : Wd} (b : WSmall w) (bn : -2 ^ 63 ≤ w.n ∧ w.n < 2 ^ 63) : WOk (cw w) (cv w) := by
  obtain ⟨bl, bd, bdn, bp, bpp, bo, bli, bs⟩ := b
  refine ⟨.inr ⟨false, rfl⟩, ci_ok _, ci_ok _, .inr ⟨false, rfl⟩, ?_, ci_ok _, ci_ok _, .inr ⟨false, rfl⟩, ?_, ?_, ?_, ?_, ?_, ?_, ?_, bn⟩
  · intro p hp
    obtain ⟨q, hq, rfl⟩ := List.mem_map.1 hp
    exact ⟨ci_ok _, by have := bpp q hq; simp only [cp]; omega⟩
  all_goals simp only [cw, List.length_map]
  all_goals omega

theorem w_toWorld (g : Good X) {w : Wd} {v : Wv} (ok : WRaw w v) (b : WSmall w) (h : Hp) : Pc (pk X) 9 [.agg (wcs w v)] h = some (.agg (wcs (cw w) (cv w)), h) := by
  refine r_w_toWorld g ?_
  unfold cc_w_toWorld
  have o1 := ok.l.one; have o2 := ok.d.one; have o3 := ok.dn.one; have o4 := ok.p.one; have o5 := ok.o.one; have o6 := ok.li.one; have o7 := ok.s.one
  have t1 := w_toNet g w.n ok.l b.bl
  have t2 := w_toIntS g ok.d b.bd
  have t3 := w_toIntS g ok.dn b.bdn
  have t4 := w_toProbeS g ok.p (fun p hp => ⟨(ok.pp p hp).1, b.bpp p hp⟩) b.bp
  have t5 := w_toIntS g ok.o b.bo
  have t6 := w_toIntS g ok.li b.bli
  have t7 := w_toBucket g w.bl w.bc w.br w.bt
  have t8 := w_toSeenS g ok.s b.bs
  have hz : ∀ h1, frz h1 h.next 40 (.agg (wcs (cw w) (cv w))) = some (.agg (wcs (cw w) (cv w))) := fun h1 => (Fz.agg (d := 7) (by
    intro c hc
    simp only [wcs, cw, cv, List.mem_cons, List.not_mem_nil, or_false] at hc
    rcases hc with rfl | rfl | rfl | rfl | rfl | rfl | rfl | rfl | rfl | rfl | rfl | rfl | rfl
    · exact (Fz.lit _).up (by omega)
    · exact (Fz.lks _).up (by omega)
    · exact (Fz.ci _).up (by omega)
    · exact (Fz.ci _).up (by omega)
    · exact Fz.prs _
    · exact (Fz.ci _).up (by omega)
    · exact (Fz.ci _).up (by omega)
    · exact (Fz.lit _).up (by omega)
    · exact (Fz.lit _).up (by omega)
    · exact (Fz.lit _).up (by omega)
    · exact (Fz.lit _).up (by omega)
    · exact (Fz.sns _).up (by omega)
    · exact (Fz.lit _).up (by omega))) h1 h.next 31
  simp only [wcs, cw, cv, ci] at hz ⊢
  have p1 : AV.one (AV.imm false (w.links.map lk)) = true := rfl
  have p2 : AV.one (AV.imm false (w.delays.map fun n => [I n])) = true := rfl
  have p3 : AV.one (AV.imm false (w.down.map fun n => [I n])) = true := rfl
  have p4 : AV.one (AV.imm false ((w.probes.map cp).map prc)) = true := rfl
  have p5 : AV.one (AV.imm false (w.owners.map fun n => [I n])) = true := rfl
  have p6 : AV.one (AV.imm false (w.liars.map fun n => [I n])) = true := rfl
  have p7 : AV.one (AV.imm false (w.seen.map snc)) = true := rfl
  have c1 : AV.cells (AV.imm false (w.delays.map fun n => [I n])) = [AV.imm false (w.delays.map fun n => [I n])] := rfl
  have c2 : AV.cells (AV.imm false (w.down.map fun n => [I n])) = [AV.imm false (w.down.map fun n => [I n])] := rfl
  have c3 : AV.cells (AV.imm false ((w.probes.map cp).map prc)) = [AV.imm false ((w.probes.map cp).map prc)] := rfl
  have c4 : AV.cells (AV.imm false (w.owners.map fun n => [I n])) = [AV.imm false (w.owners.map fun n => [I n])] := rfl
  have c5 : AV.cells (AV.imm false (w.liars.map fun n => [I n])) = [AV.imm false (w.liars.map fun n => [I n])] := rfl
  have c6 : AV.cells (AV.imm false (w.seen.map snc)) = [AV.imm false (w.seen.map snc)] := rfl
  generalize AV.imm false (w.links.map lk) = q1 at *
  generalize AV.imm false (w.delays.map fun n => [I n]) = q2 at *
  generalize AV.imm false (w.down.map fun n => [I n]) = q3 at *
  generalize AV.imm false ((w.probes.map cp).map prc) = q4 at *
  generalize AV.imm false (w.owners.map fun n => [I n]) = q5 at *
  generalize AV.imm false (w.liars.map fun n => [I n]) = q6 at *
  generalize AV.imm false (w.seen.map snc) = q7 at *
  simp [box, addRow, o1, o2, o3, o4, o5, o6, o7, alloc, stor, splice, t1, p1]
  simp [t2, c1, p2, stor, splice]
  simp [t3, c2, p3, stor, splice]
  simp [t4, c3, p4, stor, splice]
  simp [t5, c4, p5, stor, splice]
  simp [t6, c5, p6, stor, splice]
  simp [t7, stor, splice]
  simp [t8, c6, p7, stor, splice, hz, p1, p2, p3, p4, p5, p6]
end Go.Proofs.Ev
end
section
/- The law NextForFaults, as a run. -/
set_option maxHeartbeats 8000000
set_option maxRecDepth 100000
set_option linter.unusedVariables false
set_option linter.unusedSimpArgs false
namespace Go.Proofs.Ev
open Go Go.RowKit
variable {X : FuncId → Option (List AV → Hp → Option (AV × Hp))}

theorem ex_fz {T : TT} {x : RE} {res : List ResultVar} {n : Nat} {A Q : AV → Prop} (r : ∀ v, Ends T x res (fun r h1 => frz h1 n 40 r = some v) → A v)
    (e : Ends T x res (fun r h1 => ∃ v, frz h1 n 40 r = some v ∧ Q v)) : ∃ v, A v ∧ Q v := by
  obtain ⟨ex, st, h1, vs, e1, e2, e3, v, e4, hq⟩ := e
  exact ⟨v, r v ⟨ex, st, h1, vs, e1, e2, e3, e4⟩, hq⟩

theorem w_szWorld (g : Good X) {w : Wd} {v : Wv} (ok : WRaw w v) (left : Int) (h0 : 0 ≤ left) (h1 : left ≤ 2 ^ 20) (h : Hp) :
    ∃ r, Pc (pk X) 7 [.agg (wcs w v), I left] h = some (I r, h) ∧ (0 ≤ r → WSmall w) := by
  have o1 := ok.l.one; have o2 := ok.d.one; have o3 := ok.dn.one; have o4 := ok.p.one; have o5 := ok.o.one; have o6 := ok.li.one; have o7 := ok.s.one
  generalize hH : ({ rows := updR h.rows h.next (some ⟨31, 13, [wcs w v]⟩), next := h.next + 1, lo := h.next } : Hp) = H
  have hr : H.rows h.next = some ⟨31, 13, [wcs w v]⟩ := by rw [← hH]; simp
  have hbox : box (pk X).T { rows := h.rows, next := h.next, lo := h.next } 31 (.agg (wcs w v)) = some (.elem (.own h.next) 0 0, H) := by
    simp [box, addRow, o1, o2, o3, o4, o5, o6, o7, ← hH]
  obtain ⟨r1, e1, l1, b1⟩ := w_szNet g w.n ok.l ok.bl left h0 h1 H
  have E : ∃ u, Pc (pk X) 7 [.agg (wcs w v), I left] h = some (u, h) ∧ ∃ r, u = I r ∧ (0 ≤ r → WSmall w) := by
    refine ex_fz (fun u => r_w_szWorld g) ?_
    unfold cc_w_szWorld
    simp [hbox, hr, e1]
    by_cases n1 : r1 < 0
    · simp [n1]
    obtain ⟨r2, e2, l2, b2⟩ := w_szIntS g ok.d rfl ok.bd r1 (by omega) l1.2 H
    simp [n1, hr, e2]
    by_cases n2 : r2 < 0
    · simp [n2]
    obtain ⟨r3, e3, l3, b3⟩ := w_szIntS g ok.dn rfl ok.bdn r2 (by omega) l2.2 H
    simp [n2, hr, e3]
    by_cases n3 : r3 < 0
    · simp [n3]
    obtain ⟨r4, e4, l4, b4⟩ := w_szProbeS g ok.p ok.pp ok.bp r3 (by omega) l3.2 H
    simp [n3, hr, e4]
    by_cases n4 : r4 < 0
    · simp [n4]
    obtain ⟨r5, e5, l5, b5⟩ := w_szIntS g ok.o rfl ok.bo r4 (by omega) l4.2 H
    simp [n4, hr, e5]
    by_cases n5 : r5 < 0
    · simp [n5]
    obtain ⟨r6, e6, l6, b6⟩ := w_szIntS g ok.li rfl ok.bli r5 (by omega) l5.2 H
    simp [n5, hr, e6]
    by_cases n6 : r6 < 0
    · simp [n6]
    obtain ⟨r7, e7, l7, b7⟩ := w_szSeenS g ok.s rfl ok.bs r6 (by omega) l6.2 H
    simp [n6, hr, e7]
    by_cases n7 : r7 < 0
    · simp [n7]
    simp [n7]
    exact fun _ => ⟨b1 (by omega), b2 (by omega), b3 (by omega), (b4 (by omega)).1, (b4 (by omega)).2, b5 (by omega), b6 (by omega), b7 (by omega)⟩
  obtain ⟨_, hp, r, rfl, hb⟩ := E
  exact ⟨r, hp, hb⟩

theorem w_eqWorld (g : Good X) {w : Wd} {v : Wv} (ok : WOk w v) (b : WSmall w) (h : Hp) : Pc (pk X) 11 [.agg (wcs w v), .agg (wcs w v)] h = some (Bo true, h) := by
  refine r_w_eqWorld g ?_
  unfold cc_w_eqWorld
  have o1 := ok.l.one; have o2 := ok.d.one; have o3 := ok.dn.one; have o4 := ok.p.one; have o5 := ok.o.one; have o6 := ok.li.one; have o7 := ok.s.one
  have e1 := w_eqNet g w.n ok.l b.bl
  have e2 := w_eqIntS g ok.d ok.d b.bd
  have e3 := w_eqIntS g ok.dn ok.dn b.bdn
  have e4 := w_eqProbeS g ok.p (fun p hp => ⟨(ok.pp p hp).1, b.bpp p hp⟩) b.bp
  have e5 := w_eqIntS g ok.o ok.o b.bo
  have e6 := w_eqIntS g ok.li ok.li b.bli
  have e7 := w_eqBucket g w.bl w.bc w.br w.bt
  have e8 := w_eqSeenS g ok.s ok.s b.bs
  simp [box, addRow, o1, o2, o3, o4, o5, o6, o7, e1, e2, e3, e4, e5, e6, e7, e8]

theorem cw_small {w : Wd} (b : WSmall w) : WSmall (cw w) := by
  obtain ⟨bl, bd, bdn, bp, bpp, bo, bli, bs⟩ := b
  refine ⟨bl, bd, bdn, by simpa [cw] using bp, ?_, bo, bli, bs⟩
  intro p hp
  obtain ⟨q, hq, rfl⟩ := List.mem_map.1 hp
  exact bpp q hq

theorem w_NextForFaults (g : Good X) {w : Wd} {v : Wv} (ok : WRaw w v) (most : Int) (h : Hp) : Pc (pk X) 4 [.agg (wcs w v), I most] h = some (Bo true, h) := by
  refine r_w_FnExactNextForFaults g ?_
  unfold cc_w_FnExactNextForFaults
  have o1 := ok.l.one; have o2 := ok.d.one; have o3 := ok.dn.one; have o4 := ok.p.one; have o5 := ok.o.one; have o6 := ok.li.one; have o7 := ok.s.one
  generalize hH : ({ rows := updR h.rows h.next (some ⟨31, 13, [wcs w v]⟩), next := h.next + 1, lo := h.next } : Hp) = H
  have hr : H.rows h.next = some ⟨31, 13, [wcs w v]⟩ := by rw [← hH]; simp
  have hbox : box (pk X).T { rows := h.rows, next := h.next, lo := h.next } 31 (.agg (wcs w v)) = some (.elem (.own h.next) 0 0, H) := by
    simp [box, addRow, o1, o2, o3, o4, o5, o6, o7, ← hH]
  have hn : H.next = h.next + 1 := by rw [← hH]
  have hl : H.lo = h.next := by rw [← hH]
  obtain ⟨r, e1, b⟩ := w_szWorld g ok 1048576 (by omega) (by omega) H
  by_cases n1 : r < 0
  · simp [hbox, hr, e1, n1]
  have b := b (by omega)
  have ok' := cw_ok b ok.bn
  have b' := cw_small b
  have t := w_toWorld g ok b
  have bs : (cw w).seen.length ≤ 2 ^ 30 := by have := b'.bs; omega
  have bp : (cw w).probes.length ≤ 2 ^ 30 := by have := b'.bp; omega
  have s := s_NextForFaults g ok' bs bp most
  have i := i_NextForFaults g ok' bs bp most
  have q := w_eqWorld g ok' b'
  have p1 := ok'.l.one; have p2 := ok'.d.one; have p3 := ok'.dn.one; have p4 := ok'.p.one; have p5 := ok'.o.one; have p6 := ok'.li.one; have p7 := ok'.s.one
  have hlo2 : H.lo ≤ H.next := by omega
  have hne : h.next ≠ H.next := by omega
  generalize cw w = w' at *
  generalize cv w = v' at *
  simp [hbox, hr, e1, n1, t, s]
  simp [alloc, addRow, stor, splice, p1, p2, p3, p4, p5, p6, p7, hlo2, hne, hr, i, t, q]
end Go.Proofs.Ev
end
section
/- What comes in, as the evaluator's values. -/
set_option maxHeartbeats 4000000
set_option linter.unusedVariables false
set_option linter.unusedSimpArgs false
namespace Go.Proofs.Ev
open Go Go.RowKit

/-- The shape of plain data. -/
inductive Sh
  | int (k : IntKind)
  | bool
  | str
  | sl (e : Sh)
  | st (fs : List Sh)

def contig (P : Program) : Nat → List Field → Option Nat
  | o, [] => some o
  | o, f :: fs => if f.offset = o then contig P (o + P.cellsOf f.type) fs else none

def shp (P : Program) : Nat → TypeId → Option Sh
  | 0, _ => none
  | n + 1, t => match P.underlying t with
    | some (.int k) => some (.int k)
    | some .bool => some .bool
    | some .string => some .str
    | some (.slice e) => if 0 < P.cellsOf e then (shp P n e).map .sl else none
    | some (.struct fs) => if contig P 0 fs.toList = some (P.cellsOf t) then (allSome (fun f => shp P n f.type) fs.toList).map .st else none
    | _ => none

mutual
def FitsS : Sh → List AV → Prop
  | .int k, av => ∃ m, av = [.lit (.int k m)] ∧ (Lit.int k m).wf = true
  | .bool, av => ∃ b, av = [.lit (.bool b)]
  | .str, av => ∃ s : ByteArray, av = [.lit (.string s)] ∧ s.size ≤ maxLen
  | .sl e, av => ∃ v es, av = [v] ∧ SV v es ∧ es.length ≤ maxLen ∧ ∀ c ∈ es, FitsS e c
  | .st fs, av => FitsL fs av
def FitsL : List Sh → List AV → Prop
  | [], av => av = []
  | s :: fs, av => ∃ a b, av = a ++ b ∧ FitsS s a ∧ FitsL fs b
end

theorem choose_list {α : Type} : ∀ (n : Nat) (Q : Nat → α → Prop), (∀ i, i < n → ∃ y, Q i y) → ∃ l : List α, l.length = n ∧ ∀ i (h : i < l.length), Q i l[i]
  | 0, _, _ => ⟨[], rfl, fun i h => by simp at h⟩
  | n + 1, Q, h => by
    obtain ⟨l, hl, hq⟩ := choose_list n Q (fun i hi => h i (by omega))
    obtain ⟨y, hy⟩ := h n (by omega)
    refine ⟨l ++ [y], by simp [hl], fun i hi => ?_⟩
    by_cases h1 : i < l.length
    · rw [List.getElem_append_left h1]; exact hq i h1
    · have e : i = n := by simp at hi; omega
      subst e
      rw [List.getElem_append_right (by omega)]
      simpa [hl] using hy

theorem LRel.flatten {E : En} : ∀ (es : List (List AV)) (uss : List (List Value)), uss.length = es.length → (∀ i (h1 : i < es.length) (h2 : i < uss.length), LRel E es[i] uss[i]) → LRel E es.flatten uss.flatten
  | [], [], _, _ => LRel.nil E
  | [], _ :: _, h, _ => by simp at h
  | _ :: _, [], h, _ => by simp at h
  | e :: es, us :: uss, h, hr => by
    simp only [List.flatten_cons]
    exact (hr 0 (by simp) (by simp)).append (LRel.flatten es uss (by simpa using h) (fun i h1 h2 => hr (i + 1) (by simpa using h1) (by simpa using h2)))

section
variable {H : Type} {enc : TypeId × Value → H} {P : Program} {sp : Nat → Bool} {held : Bool} {base : Nat}

theorem open_any {E : En} (hO : ∀ b, ¬ E.O b) : ∀ (n : Nat) (t : TypeId) (s : Sh) (fuel : Nat) (cs : List Value) (x : DataW H × List MemPlace), shp P n t = some s → DataW.trod enc P E.w base sp held fuel t cs = some x →
    ∃ av, LRel E av cs ∧ FitsS s av
  | 0, _, _, _, _, _, h, _ => by simp [shp] at h
  | n + 1, t, s, fuel, cs, x, h, ht => by
    unfold shp at h
    split at h
    · rename_i k hu
      obtain rfl := Option.some.inj h
      obtain ⟨m, rfl, _, hw⟩ := DataW.trod_int hu ht
      exact ⟨[.lit (.int k m)], (LRel.nil E).cons (.lit _), m, rfl, hw⟩
    · rename_i hu
      obtain rfl := Option.some.inj h
      obtain ⟨b, rfl, _⟩ := DataW.trod_bool hu ht
      exact ⟨[.lit (.bool b)], (LRel.nil E).cons (.lit _), b, rfl⟩
    · rename_i hu
      obtain rfl := Option.some.inj h
      obtain ⟨b, rfl, _, hs⟩ := DataW.trod_string hu ht
      exact ⟨[.lit (.string b)], (LRel.nil E).cons (.lit _), b, rfl, hs⟩
    · rename_i e hu
      split at h
      · rename_i hpos
        obtain ⟨s', hs', rfl⟩ := Option.map_eq_some_iff.1 h
        rcases DataW.trod_slice hu ht with ⟨rfl, _⟩ | ⟨a, len, cap, elems, rest, m, _, rfl, _, hb, hl, hm, hlen, hel, _, _⟩
        · exact ⟨[.nilS], (LRel.nil E).cons .nilS, .nilS, [], rfl, .inl ⟨rfl, rfl⟩, by simp, by simp⟩
        · obtain ⟨l, hll, hq⟩ := choose_list len (fun i (y : List AV × List Value) => E.w.cells? base (a.add (i * P.cellsOf e)) (P.cellsOf e) = some y.2 ∧ LRel E y.1 y.2 ∧ FitsS s' y.1) (fun i hi => by
            have h1 := hel i hi
            rw [List.getElem?_eq_getElem (by omega)] at h1
            obtain ⟨c, hc, hd⟩ := Option.bind_eq_some_iff.1 h1
            obtain ⟨av, hr, hf⟩ := open_any hO n e s' m c _ hs' hd
            exact ⟨(av, c), hc, hr, hf⟩)
          have hcs : ∀ i (h : i < l.length), l[i].2.length = P.cellsOf e ∧ ∀ o, o < P.cellsOf e → E.w.cell? ((a.add (i * P.cellsOf e)).add o) = l[i].2[o]? := fun i h => by
            have := World.cells?_some (hq i h).1
            exact ⟨this.2.1, this.2.2⟩
          have hu2 : ∀ u ∈ l.map (·.2), u.length = P.cellsOf e := by
            intro u hu
            obtain ⟨i, hi, rfl⟩ := List.mem_iff_getElem.1 hu
            simp only [List.getElem_map]
            exact (hcs i (by simpa using hi)).1
          have hu1 : ∀ u ∈ l.map (·.1), u.length = P.cellsOf e := by
            intro u hu
            obtain ⟨i, hi, rfl⟩ := List.mem_iff_getElem.1 hu
            simp only [List.getElem_map]
            have h' : i < l.length := by simpa using hi
            rw [← (hq i h').2.1.1]
            exact (hcs i h').1
          have hflat : LRel E (l.map (·.1)).flatten (l.map (·.2)).flatten := LRel.flatten _ _ (by simp) (fun i h1 h2 => by
            simp only [List.getElem_map]
            exact (hq i (by simpa using h1)).2.1)
          refine ⟨[.imm false (l.map (·.1))], (LRel.nil E).cons ?_, .imm false (l.map (·.1)), l.map (·.1), rfl, .inr ⟨false, rfl⟩, by simp; omega, ?_⟩
          · have hv := VRel.imm (E := E) false (l.map (·.1)) (P.cellsOf e) a cap (l.map (·.2)).flatten hu1 hflat.1 (fun j u hj => by
              have hjl := (List.getElem?_eq_some_iff.1 hj).1
              rw [flatten_length _ hu2, List.length_map] at hjl
              have hdiv : j / P.cellsOf e < l.length := Nat.div_lt_of_lt_mul (by rw [Nat.mul_comm]; exact hjl)
              have hmod := Nat.mod_lt j hpos
              have hjj : j / P.cellsOf e * P.cellsOf e + j % P.cellsOf e = j := by rw [Nat.mul_comm]; exact Nat.div_add_mod j _
              have h1 := flatten_at _ hu2 (j / P.cellsOf e) (j % P.cellsOf e) hmod
              rw [hjj, hj, List.getElem?_map, List.getElem?_eq_getElem hdiv] at h1
              have h2 := (hcs _ hdiv).2 (j % P.cellsOf e) hmod
              rw [addr_add_add, hjj] at h2
              rw [h2]
              exact h1.symm) (fun _ => hO _) (by simp; omega) (fun h => by cases h) hm hflat.2
            have el : (l.map (·.1)).length = len := by simp [hll]
            rw [el] at hv
            exact hv
          · intro c hc
            obtain ⟨y, hy, rfl⟩ := List.mem_map.1 hc
            obtain ⟨i, hi, rfl⟩ := List.mem_iff_getElem.1 hy
            exact (hq i hi).2.2
      · cases h
    · rename_i fs hu
      split at h
      · rename_i hc
        obtain ⟨ss, hs, rfl⟩ := Option.map_eq_some_iff.1 h
        obtain ⟨xs, m, _, _, hlen, hxl, hx⟩ := DataW.trod_struct hu ht
        have key : ∀ (gs : List Field), (∀ f ∈ gs, f ∈ fs.toList) → ∀ (o e : Nat) (ss : List Sh), contig P o gs = some e → allSome (fun f => shp P n f.type) gs = some ss →
            ∃ av, LRel E av ((cs.drop o).take (e - o)) ∧ FitsL ss av ∧ o ≤ e := by
          intro gs
          induction gs with
          | nil =>
            intro _ o e ss hc hs
            obtain rfl := Option.some.inj hc
            obtain rfl := Option.some.inj hs
            exact ⟨[], by simp; exact LRel.nil E, rfl, Nat.le_refl _⟩
          | cons f gs ih =>
            intro hmem o e ss hc hs
            simp only [contig] at hc
            split at hc
            · rename_i ho
              simp only [allSome] at hs
              split at hs
              · rename_i y ys hy hys
                obtain rfl := Option.some.inj hs
                obtain ⟨i, hi, hfi⟩ := List.mem_iff_getElem.1 (hmem f (List.mem_cons_self ..))
                have hfi' : fs[i]? = some f := by
                  rw [← hfi]
                  simp at hi
                  simp [hi]
                have hi' : i < xs.length := by simp at hi; omega
                have ht' := hx i f hfi'
                rw [List.getElem?_eq_getElem hi'] at ht'
                obtain ⟨a, ra, fa⟩ := open_any hO n f.type y m _ _ hy ht'
                obtain ⟨b, rb, fb, hle⟩ := ih (fun g hg => hmem g (List.mem_cons_of_mem _ hg)) _ e ys hc hys
                refine ⟨a ++ b, ?_, ⟨a, b, rfl, fa, fb⟩, by omega⟩
                have e1 : (cs.drop o).take (e - o) = (cs.drop f.offset).take (P.cellsOf f.type) ++ (cs.drop (o + P.cellsOf f.type)).take (e - (o + P.cellsOf f.type)) := by
                  rw [ho, ← List.drop_drop, show e - o = P.cellsOf f.type + (e - (o + P.cellsOf f.type)) by omega, List.take_add]
                rw [e1]
                exact ra.append rb
              · cases hs
            · cases hc
        obtain ⟨av, ra, fa, _⟩ := key fs.toList (fun f hf => hf) 0 _ ss hc hs
        refine ⟨av, ?_, fa⟩
        simpa [← hlen] using ra
      · cases h
    · cases h
end

theorem map_ex {α : Type} (f : α → List AV) (R : α → Prop) : ∀ (es : List (List AV)), (∀ c ∈ es, ∃ x, c = f x ∧ R x) → ∃ l : List α, es = l.map f ∧ ∀ x ∈ l, R x
  | [], _ => ⟨[], rfl, by simp⟩
  | c :: es, h => by
    obtain ⟨x, rfl, hx⟩ := h c (List.mem_cons_self ..)
    obtain ⟨l, rfl, hl⟩ := map_ex f R es (fun y hy => h y (List.mem_cons_of_mem _ hy))
    exact ⟨x :: l, rfl, by simpa using ⟨hx, hl⟩⟩
end Go.Proofs.Ev
end
section
/-
  DERIVED: THE SHELF's CONTRACTS AT THIS DUMP, IN PLAIN WORDS (tools/lay-plain.mjs out of 'YtgmimlfiedmclaaGreatShelf.lean', which tools/lay-shelf.mjs wrote): THE SAME DECLARATIONS UNDER THE SAME NAMES: 'import', 'namespace', 'open', 'def', 'theorem' AND NOTHING ELSE: no command of the shelf's: FOR A HAND-IN. Each laying: the table of numbers ('.._ren') and one theorem, a field a fact of the dump's own or the kernel's comparison; each contract: ONE APPLICATION.
-/
namespace Go.Proofs
open Go.Shelf
def Tryz.lays189_ren : Go.Shelf.Ren := ⟨fun | 189 => 123 | 125 => 132 | 257 => 131 | 128 => 144 | 129 => 145 | 294 => 135 | 295 => 136 | 296 => 137 | 297 => 138 | 298 => 139 | 299 => 140 | 216 => 141 | 300 => 142 | 301 => 143 | 328 => 146 | 329 => 147 | 330 => 148 | 331 => 149 | 332 => 150 | 215 => 151 | 343 => 152 | n => n, fun | 28 => 25 | 3 => 3 | 46 => 136 | 0 => 0 | 51 => 146 | 53 => 148 | 4 => 4 | 183 => 140 | 182 => 139 | 131 => 143 | 5 => 5 | 9 => 9 | 218 => 149 | 222 => 153 | 228 => 155 | 229 => 156 | n => n, fun | n => n⟩
theorem Tryz.lays189 : Go.Proofs.Lays.n189 Tryz.prog Tryz.lays189_ren := {
  mixed := by kernel_rfl
  f125 := Tryz.func132.trans (congrArg some (by kernel_rfl))
  f128 := Tryz.func144.trans (congrArg some (by kernel_rfl))
  f129 := Tryz.func145.trans (congrArg some (by kernel_rfl))
  f189 := Tryz.func123.trans (congrArg some (by kernel_rfl))
  f215 := Tryz.func151.trans (congrArg some (by kernel_rfl))
  f216 := Tryz.func141.trans (congrArg some (by kernel_rfl))
  f257 := Tryz.func131.trans (congrArg some (by kernel_rfl))
  f294 := Tryz.func135.trans (congrArg some (by kernel_rfl))
  f295 := Tryz.func136.trans (congrArg some (by kernel_rfl))
  f296 := Tryz.func137.trans (congrArg some (by kernel_rfl))
  f297 := Tryz.func138.trans (congrArg some (by kernel_rfl))
  f298 := Tryz.func139.trans (congrArg some (by kernel_rfl))
  f299 := Tryz.func140.trans (congrArg some (by kernel_rfl))
  f300 := Tryz.func142.trans (congrArg some (by kernel_rfl))
  f301 := Tryz.func143.trans (congrArg some (by kernel_rfl))
  f328 := Tryz.func146.trans (congrArg some (by kernel_rfl))
  f329 := Tryz.func147.trans (congrArg some (by kernel_rfl))
  f330 := Tryz.func148.trans (congrArg some (by kernel_rfl))
  f331 := Tryz.func149.trans (congrArg some (by kernel_rfl))
  f332 := Tryz.func150.trans (congrArg some (by kernel_rfl))
  f343 := Tryz.func152.trans (congrArg some (by kernel_rfl))
  t0 := Tryz.underlying0
  a0 := Tryz.isAgg0
  z0 := Tryz.sizeOf0
  v0 := Tryz.zeroValue0
  t3 := Tryz.underlying3
  a3 := Tryz.isAgg3
  z3 := Tryz.sizeOf3
  v3 := Tryz.zeroValue3
  t4 := Tryz.underlying4
  a4 := Tryz.isAgg4
  z4 := Tryz.sizeOf4
  v4 := Tryz.zeroValue4
  t5 := Tryz.underlying5
  a5 := Tryz.isAgg5
  z5 := Tryz.sizeOf5
  v5 := Tryz.zeroValue5
  t9 := Tryz.underlying9
  a9 := Tryz.isAgg9
  z9 := Tryz.sizeOf9
  v9 := Tryz.zeroValue9
  t28 := Tryz.underlying25
  a28 := Tryz.isAgg25
  z28 := Tryz.sizeOf25
  v28 := Tryz.zeroValue25
  t46 := Tryz.underlying136
  a46 := Tryz.isAgg136
  z46 := Tryz.sizeOf136
  v46 := Tryz.zeroValue136
  t51 := Tryz.underlying146
  a51 := Tryz.isAgg146
  z51 := Tryz.sizeOf146
  v51 := Tryz.zeroValue146
  t53 := Tryz.underlying148
  a53 := Tryz.isAgg148
  z53 := Tryz.sizeOf148
  v53 := Tryz.zeroValue148
  t131 := Tryz.underlying143
  a131 := Tryz.isAgg143
  z131 := Tryz.sizeOf143
  v131 := Tryz.zeroValue143
  t182 := Tryz.underlying139
  a182 := Tryz.isAgg139
  z182 := Tryz.sizeOf139
  v182 := Tryz.zeroValue139
  t183 := Tryz.underlying140
  a183 := Tryz.isAgg140
  z183 := Tryz.sizeOf140
  v183 := Tryz.zeroValue140
  t218 := Tryz.underlying149
  a218 := Tryz.isAgg149
  z218 := Tryz.sizeOf149
  v218 := Tryz.zeroValue149
  t222 := Tryz.underlying153
  a222 := Tryz.isAgg153
  z222 := Tryz.sizeOf153
  v222 := Tryz.zeroValue153
  t228 := Tryz.underlying155
  a228 := Tryz.isAgg155
  z228 := Tryz.sizeOf155
  v228 := Tryz.zeroValue155
  t229 := Tryz.underlying156
  a229 := Tryz.isAgg156
  z229 := Tryz.sizeOf156
  v229 := Tryz.zeroValue156 }
open Go.Sort Go.RowKit in
theorem Tryz.slices_Sort_int (blk off cap : Nat) (zs : List Int) (w : World) (hH : Holds (Value.int .i64) w blk off zs.toArray) (hblk : blk < w.heap.size) (hsz : zs.length < 4611686018427387904) :
    Calls Tryz.prog 123 #[.slice (some ⟨blk, off, none⟩) zs.length cap] w fun e w' =>
      e = .returned (.tuple #[]) ∧ ∃ n os, w' = grow (putRow (Value.int .i64) (Sort.ahead w n) blk off (zs.mergeSort fun x y => decide (x ≤ y)).toArray) os := Any.slices_Sort_int Tryz.lays189 blk off cap zs w hH hblk hsz
def Tryz.laysNm220_ren : Go.Shelf.Ren := ⟨fun | 20 => 124 | n => n, fun | 22 => 25 | 3 => 3 | 4 => 4 | 0 => 0 | n => n, fun | n => n⟩
theorem Tryz.laysNm220 : Go.Proofs.Lays2.n20 Tryz.prog Tryz.laysNm220_ren := {
  mixed := by kernel_rfl
  f20 := Tryz.func124.trans (congrArg some (by kernel_rfl))
  t0 := Tryz.underlying0
  a0 := Tryz.isAgg0
  z0 := Tryz.sizeOf0
  v0 := Tryz.zeroValue0
  t3 := Tryz.underlying3
  a3 := Tryz.isAgg3
  z3 := Tryz.sizeOf3
  v3 := Tryz.zeroValue3
  t4 := Tryz.underlying4
  a4 := Tryz.isAgg4
  z4 := Tryz.sizeOf4
  v4 := Tryz.zeroValue4
  t22 := Tryz.underlying25
  a22 := Tryz.isAgg25
  z22 := Tryz.sizeOf25
  v22 := Tryz.zeroValue25
  i3 := by kernel_rfl }
open Go.RowKit Go.Lib Go.Sort in
/-- slices.Compact at []int, over an array: the library's two loops are walked. (LAID: no walk: one application.) -/
theorem Tryz.slices_Compact_int_arr (blk off cap : Nat) (d : Array Int) (w : World) (hH : Holds encI w blk off d) (hsz : d.size ≤ 9223372036854775807) (hcap : d.size ≤ cap) :
    Calls Tryz.prog 124 #[.slice (some ⟨blk, off, none⟩) d.size cap] w fun e w' => e = .returned (.slice (some ⟨blk, off, none⟩) (compactUpTo d d.size).length cap) ∧ ∃ q, w' = putRow encI (Sort.ahead w q) blk off (compactUpTo d d.size ++ List.replicate (d.size - (compactUpTo d d.size).length) 0).toArray := Any.slices_Compact_int_arr Tryz.laysNm220 blk off cap d w hH hsz hcap
open Go.RowKit Go.Lib Go.Sort in
/-- slices.Compact at []int: "Compact replaces consecutive runs of equal elements with a single copy. This is like the uniq command found on Unix. Compact modifies the contents of the slice s and returns the modified slice, which may have a smaller length. Compact zeroes the elements between the new length and the original length. The result preserves the nilness of s.": IT RETURNS THE SLICE CUT TO 'Lib.compact zs'; ITS CELLS HOLD 'Lib.compact zs', THEN ZERO VALUES up to the old length; all else is as it was, but for the count of draws. IN THE WORDS OF slices.Sort's CONTRACT ('Holds', 'putRow'): so the everyday 'slices.Sort(xs); xs = slices.Compact(xs)' goes from the one contract to the other. It asks 'zs.length ≤ cap' (every slice's: the reslicing 's[:k]' looks at it). Length 0, nil: '.._empty'. (LAID: no walk: one application.) -/
theorem Tryz.slices_Compact_int (blk off cap : Nat) (zs : List Int) (w : World) (hH : Holds (Value.int .i64) w blk off zs.toArray) (hsz : zs.length ≤ 9223372036854775807) (hcap : zs.length ≤ cap) :
    Calls Tryz.prog 124 #[.slice (some ⟨blk, off, none⟩) zs.length cap] w fun e w' => e = .returned (.slice (some ⟨blk, off, none⟩) (Lib.compact zs).length cap) ∧ ∃ q, w' = putRow (Value.int .i64) (Sort.ahead w q) blk off (Lib.compact zs ++ List.replicate (zs.length - (Lib.compact zs).length) 0).toArray := Any.slices_Compact_int Tryz.laysNm220 blk off cap zs w hH hsz hcap
open Go.RowKit Go.Lib Go.Sort in
/-- The same at a slice of length 0, a nil one too: it comes back as it is. (LAID: no walk: one application.) -/
theorem Tryz.slices_Compact_int_empty (a : Option Addr) (cap : Nat) (w : World) :
    Calls Tryz.prog 124 #[.slice a 0 cap] w fun e w' => e = .returned (.slice a 0 cap) ∧ w' = w := Any.slices_Compact_int_empty Tryz.laysNm220 a cap w
open Go.RowKit Go.Sort in
/-- .. and plain. (LAID: no walk: one application.) -/
theorem Tryz.slices_Sort_int_none (p : Option Addr) (cap : Nat) (w : World) :
    Calls Tryz.prog 123 #[.slice p 0 cap] w fun e w' => e = .returned (.tuple #[]) ∧ w' = w := Any.slices_Sort_int_none Tryz.lays189 p cap w
end Go.Proofs
end
