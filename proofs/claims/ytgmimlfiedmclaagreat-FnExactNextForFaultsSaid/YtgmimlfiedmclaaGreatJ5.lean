/- The evaluator of the model's code and the functions' specs, part 5. Each part begins with a line that says what it holds. -/
import Derived.Test.YtgmimlfiedmclaaGreatJ4
section
/- The functions: probes, buckets. -/
set_option linter.unusedVariables false
set_option linter.unusedSimpArgs false
namespace Go.Proofs.Ev
open Go Go.RowKit
variable {X : FuncId → Option (List AV → Hp → Option (AV × Hp))}

/-! Probes. -/
structure Prb where
  a : Int
  b : Int
  v : AV
  path : List Int
abbrev prc (p : Prb) : List AV := [I p.a, I p.b, p.v]
def PrOk (ps : List Prb) : Prop := ∀ p ∈ ps, SVI p.v p.path ∧ p.path.length ≤ 2 ^ 40
theorem pr_uni (ps : List Prb) : ∀ c ∈ ps.map prc, c.length = 3 := by
  intro c hc
  obtain ⟨p, _, rfl⟩ := List.mem_map.1 hc
  rfl
def okPr (links : List (Int × Int)) (p : Prb) : Bool := !((p.path.length : Int) == 0) && isPath links p.path p.a p.b
def areProbes (n : Int) (links : List (Int × Int)) (ps : List Prb) : Bool := isNet n links && decide ((ps.length : Int) ≤ 12) && ps.all (okPr links)

theorem pr_len {v : AV} {ps : List Prb} (hs : SV v (ps.map prc)) (h : Hp) : lenA (pk X).T h 37 v = some (I ps.length) := by
  have := hs.len (X := X) 37 h (by simp [slT])
  simpa using this
theorem pr_at {v : AV} {ps : List Prb} (hs : SV v (ps.map prc)) {k : Nat} (hk : k < ps.length) (h : Hp) : idxAddr (pk X).T h 37 v (I k) = some (.elem v k 0) :=
  hs.at_ (X := X) 37 (by simp) t_91 (by simpa using hk) (by simp [prc]) h

theorem s_AreProbes (g : Good X) (n : Int) {v vl : AV} {links : List (Int × Int)} {ps : List Prb} (hs : SV v (links.map lk)) (hp : SV vl (ps.map prc)) (ho : PrOk ps) (bl : links.length ≤ 2 ^ 40) (bp : ps.length ≤ 2 ^ 40) (bn : -2 ^ 63 ≤ n ∧ n < 2 ^ 63) (h : Hp) :
    Pc (pk X) 62 [.agg [I n, v], vl] h = some (Bo (areProbes n links ps), h) := by
  refine r_s_AreProbes g ?_
  unfold cc_s_AreProbes
  have hcv := hs.cells; have hov := hs.one
  have hlen := pr_len (X := X) hp
  have hrow : (addRow { rows := h.rows, next := h.next, lo := h.next } 36 2 [[I n, v]]).rows h.next = some ⟨36, 2, [[I n, v]]⟩ := by simp [addRow]
  generalize hH : addRow { rows := h.rows, next := h.next, lo := h.next } 36 2 [[I n, v]] = H at hrow
  simp [box, hcv, hov, hH]
  obtain ⟨e, s', h', he, hq⟩ := for_rule (b := evC (pk X).T (Pc (pk X)) L0_s_AreProbes) ps.length
    (fun i s h1 => i ≤ ps.length ∧ h1 = H ∧ (∃ a b, s = [(0, .agg [I n, v]), (1, vl), (2, .elem (.own h.next) 0 0), (4, Bo false), (5, I i), (9, a), (38, b)]) ∧ (ps.drop i).all (okPr links) = ps.all (okPr links))
    (fun e s h1 => h1 = H ∧ ∃ i a b, s = [(0, .agg [I n, v]), (1, vl), (2, .elem (.own h.next) 0 0), (4, Bo false), (5, i), (9, a), (38, b)] ∧ ((e = .ret ∧ ps.all (okPr links) = false) ∨ (e = .exit 0 ∧ ps.all (okPr links) = true)))
    (s := [(0, .agg [I n, v]), (1, vl), (2, .elem (.own h.next) 0 0), (4, Bo false), (5, I 0), (9, .lit undef), (38, .lit undef)]) (h := H) (by simp) (fun i s h1 hI => hI.1) (by
      rintro i s h1 ⟨hi, rfl, ⟨a, b, rfl⟩, hf⟩
      unfold L0_s_AreProbes
      by_cases hlt : i < ps.length
      · have hw2 := wadd (x := i) (y := 1) (by omega) (by omega)
        rw [List.drop_eq_getElem_cons hlt, List.all_cons] at hf
        have hat := pr_at (X := X) hp hlt
        have hok := ho ps[i] (List.getElem_mem hlt)
        generalize hpi : ps[i] = p at hf hok
        obtain ⟨pa, pb, pv, pp⟩ := p
        have hpl := hok.1.len (X := X)
        have hip := fun h => s_IsPath g n hs hok.1 bl hok.2 pa pb h
        simp only [okPr] at hf
        cases hc1 : ((pp.length : Int) == 0)
        · cases hc2 : isPath links pp pa pb
          · simp only [hc1, hc2, Bool.not_false, Bool.true_and, Bool.false_and] at hf
            simp [hrow, hlen, hat, hlt, hp.get, hpi, hpl, hc1, hip, hc2, ← hf]
          · simp only [hc1, hc2, Bool.not_false, Bool.true_and] at hf
            simp [hrow, hlen, hat, hlt, hp.get, hpi, hpl, hc1, hip, hc2, hw2, hf]
            omega
        · simp only [hc1, Bool.not_true, Bool.false_and] at hf
          simp [hrow, hlen, hat, hlt, hp.get, hpi, hpl, hc1, ← hf]
      · have : i = ps.length := by omega
        subst this
        rw [List.drop_length] at hf
        simp [← hf, hlen])
  rw [he]
  have hN := s_IsNet g n hs bl bn
  obtain ⟨rfl, i, a, b, rfl, ⟨rfl, hk⟩ | ⟨rfl, hk⟩⟩ := hq
  · simp [areProbes, hk]
  · cases hc1 : isNet n links
    · simp [hrow, hN, hc1, areProbes]
    · simp [hrow, hN, hc1, areProbes, hk, hlen]

theorem sl_ContainsFunc_Probe (g : Good X) {v : AV} {es : List (List AV)} (hs : SV v es) (hu : ∀ c ∈ es, c.length = 3) (bl : es.length ≤ 2 ^ 40) (f : FuncId) (xs ys : List AV) (p : List AV → Bool) (h : Hp)
    (hp : ∀ h1 : Hp, h1.rows = h.rows → h1.next = h.next → ∀ x ∈ es, Pc (pk X) f (xs ++ [.agg x] ++ ys) h1 = some (Bo (p x), h1)) :
    Pc (pk X) 106 [v, .fn f xs ys] h = some (Bo (es.any p), h) := by
  refine r_sl_ContainsFunc_Si_Probe_i_Probe g ?_
  have h1 := sl_IndexFunc_Si_Probe_i_Probe g hs hu bl f xs ys p { h with lo := h.next } (fun x hx => hp { rows := h.rows, next := h.next, lo := h.next } rfl rfl x hx)
  have h2 := idxF_any p es 0 (Int.le_refl 0)
  unfold cc_sl_ContainsFunc_Si_Probe_i_Probe
  simp [h1, h2]

theorem i_AreProbes_1 (g : Good X) (n : Int) {v : AV} {links : List (Int × Int)} (hs : SV v (links.map lk)) (bl : links.length ≤ 2 ^ 40) (p : Prb) (hp : SVI p.v p.path) (bp : p.path.length ≤ 2 ^ 40) (id : Nat) (h : Hp)
    (hid : h.rows id = some ⟨36, 2, [[I n, v]]⟩) (hil : id < h.next) :
    Pc (pk X) 107 [.agg (prc p), .elem (.own id) 0 0] h = some (Bo (!okPr links p), h) := by
  refine r_i_AreProbes_1 g ?_
  unfold cc_i_AreProbes_1
  have hcv := hp.cells; have hov := hp.one
  have hne : id ≠ h.next := Nat.ne_of_lt hil
  have hip := fun h => i_IsPath g n hs hp bl bp p.a p.b h
  cases hc1 : ((p.path.length : Int) == 0)
  · cases hc2 : isPath links p.path p.a p.b <;> simp [box, hov, addRow, hid, hne, hp.len, hc1, hip, hc2, okPr, prc]
  · simp [box, hov, addRow, hid, hne, hp.len, hc1, okPr, prc]

theorem SVI.inj {v : AV} {l l' : List Int} (h : SVI v l) (h' : SVI v l') : l = l' := by
  have e := (h.get hp0).symm.trans (h'.get hp0)
  have := Option.some.inj e
  have inj : ∀ (l l' : List Int), (l.map fun n => [I n]) = (l'.map fun n => [I n]) → l = l' := by
    intro l
    induction l with
    | nil => intro l' h; cases l' with | nil => rfl | cons => simp at h
    | cons x l ih =>
      intro l' h
      cases l' with
      | nil => simp at h
      | cons y l' =>
        simp only [List.map_cons, List.cons.injEq, AV.lit.injEq, Value.int.injEq, true_and, and_true] at h
        rw [h.1, ih l' h.2]
  exact inj l l' this

theorem i_AreProbes (g : Good X) (n : Int) {v vl : AV} {links : List (Int × Int)} {ps : List Prb} (hs : SV v (links.map lk)) (hp : SV vl (ps.map prc)) (ho : PrOk ps) (bl : links.length ≤ 2 ^ 40) (bp : ps.length ≤ 2 ^ 40) (bn : -2 ^ 63 ≤ n ∧ n < 2 ^ 63) (h : Hp) :
    Pc (pk X) 76 [.agg [I n, v], vl] h = some (Bo (areProbes n links ps), h) := by
  refine r_i_AreProbes g ?_
  unfold cc_i_AreProbes
  have hcv := hs.cells; have hov := hs.one
  have hlen := pr_len (X := X) hp
  have hrow : (addRow { rows := h.rows, next := h.next, lo := h.next } 36 2 [[I n, v]]).rows h.next = some ⟨36, 2, [[I n, v]]⟩ := by simp [addRow]
  have hnx : h.next < (addRow { rows := h.rows, next := h.next, lo := h.next } 36 2 [[I n, v]]).next := Nat.lt_succ_self _
  generalize hH : addRow { rows := h.rows, next := h.next, lo := h.next } 36 2 [[I n, v]] = H at hrow hnx
  have hN := i_IsNet g n hs bl bn
  have hC : Pc (pk X) 106 [vl, .fn 107 [] [.elem (.own h.next) 0 0]] H = some (Bo (!(ps.all (okPr links))), H) := by
    have e : ∀ (q : List AV → Bool), (∀ p ∈ ps, q (prc p) = !okPr links p) → (ps.map prc).any q = !(ps.all (okPr links)) := by
      intro q hq
      rw [List.any_map, List.not_all_eq_any_not]
      have : ∀ l : List Prb, (∀ p ∈ l, q (prc p) = !okPr links p) → l.any (q ∘ prc) = l.any fun a => !okPr links a := by
        intro l
        induction l with
        | nil => intro _; rfl
        | cons p l ih =>
          intro hl
          rw [List.any_cons, List.any_cons, ih (fun p hp => hl p (List.mem_cons_of_mem _ hp))]
          show (q (prc p) || _) = _
          rw [hl p (List.mem_cons_self ..)]
      exact this ps hq
    obtain ⟨q, hq⟩ : ∃ q : List AV → Bool, ∀ h1 : Hp, h1.rows = H.rows → h1.next = H.next → ∀ p ∈ ps, (Pc (pk X)).run 107 [.agg (prc p), .elem (.own h.next) 0 0] h1 = some (Bo (q (prc p)), h1) ∧ q (prc p) = !okPr links p := by
      classical
      refine ⟨fun c => decide (∃ p ∈ ps, prc p = c ∧ okPr links p = false), fun h1 e1 e2 p hpm => ?_⟩
      have hi := i_AreProbes_1 g n hs bl p (ho p hpm).1 (ho p hpm).2 h.next h1 (by rw [e1]; exact hrow) (by rw [e2]; exact hnx)
      have hd : decide (∃ p' ∈ ps, prc p' = prc p ∧ okPr links p' = false) = !okPr links p := by
        cases hk : okPr links p
        · simp only [Bool.not_false, decide_eq_true_eq]
          exact ⟨p, hpm, rfl, hk⟩
        · simp only [Bool.not_true, decide_eq_false_iff_not]
          rintro ⟨p', hp', e3, e4⟩
          have : p' = p := by
            obtain ⟨a1, b1, v1, q1⟩ := p
            obtain ⟨a2, b2, v2, q2⟩ := p'
            simp only [prc, List.cons.injEq, AV.lit.injEq, Value.int.injEq, true_and, and_true] at e3
            obtain ⟨rfl, rfl, rfl⟩ := e3
            have := SVI.inj (ho _ hp').1 (ho _ hpm).1
            simp only at this
            rw [this]
          rw [this, hk] at e4
          cases e4
      exact ⟨by show _ = some (Bo (decide (∃ p' ∈ ps, prc p' = prc p ∧ okPr links p' = false)), h1); rw [hd]; exact hi, hd⟩
    rw [← e q fun p hp => (hq H rfl rfl p hp).2]
    exact sl_ContainsFunc_Probe g hp (pr_uni ps) (by simpa using bp) _ [] [.elem (.own h.next) 0 0] q H (fun h1 e1 e2 x hx => by
      obtain ⟨p, hpm, rfl⟩ := List.mem_map.1 hx
      exact (hq h1 e1 e2 p hpm).1)
  cases hc1 : isNet n links
  · simp [box, hcv, hov, hH, hrow, hN, hc1, areProbes]
  cases hc2 : decide ((ps.length : Int) ≤ 12)
  · simp [box, hcv, hov, hH, hrow, hN, hc1, hc2, hlen, areProbes]
  · simp [box, hcv, hov, hH, hrow, hN, hc1, hc2, hlen, areProbes, hC]

theorem s_IsBucket (g : Good X) (l c r t : Int) (h : Hp) : Pc (pk X) 63 [.agg [I l, I c, I r, I t]] h =
    some (Bo ((decide (0 ≤ c) && decide (c ≤ 1000)) && (decide (0 ≤ r) && decide (r ≤ 1000)) && (decide (0 ≤ l) && decide (l ≤ c)) && (decide (0 ≤ t) && decide (t ≤ 100000))), h) := by
  refine r_s_IsBucket g ?_
  unfold cc_s_IsBucket
  cases h1 : (decide (0 ≤ c) && decide (c ≤ 1000)) <;> cases h2 : (decide (0 ≤ r) && decide (r ≤ 1000)) <;> cases h3 : (decide (0 ≤ l) && decide (l ≤ c)) <;> simp [box, addRow, s_l1In g, h1, h2, h3]

theorem i_IsBucket (g : Good X) (l c r t : Int) (h : Hp) : Pc (pk X) 77 [.agg [I l, I c, I r, I t]] h =
    some (Bo ((decide (0 ≤ c) && decide (c ≤ 1000)) && (decide (0 ≤ r) && decide (r ≤ 1000)) && (decide (0 ≤ l) && decide (l ≤ c)) && (decide (0 ≤ t) && decide (t ≤ 100000))), h) := by
  refine r_i_IsBucket g ?_
  unfold cc_i_IsBucket
  cases h1 : (decide (0 ≤ c) && decide (c ≤ 1000)) <;> cases h2 : (decide (0 ≤ r) && decide (r ≤ 1000)) <;> cases h3 : (decide (0 ≤ l) && decide (l ≤ c)) <;> simp [box, addRow, i_InRange g, h1, h2, h3]
end Go.Proofs.Ev
end
section
/- The functions: sets, observations. -/
set_option linter.unusedVariables false
set_option linter.unusedSimpArgs false
namespace Go.Proofs.Ev
open Go Go.RowKit
variable {X : FuncId → Option (List AV → Hp → Option (AV × Hp))}

theorem sl_Equal_int (g : Good X) {va vb : AV} {la lb : List Int} (ha : SVI va la) (hb : SVI vb lb) (bl : la.length ≤ 2 ^ 40) (h : Hp) :
    Pc (pk X) 104 [va, vb] h = some (Bo (la == lb), h) := by
  refine r_sl_Equal_Sint_int g ?_
  unfold cc_sl_Equal_Sint_int
  cases hc : ((la.length : Int) != lb.length)
  · have hle : la.length = lb.length := by simp at hc; omega
    simp [ha.len, hb.len, hc]
    obtain ⟨e, s', h', he, hq⟩ := for_rule (b := evC (pk X).T (Pc (pk X)) L0_sl_Equal_Sint_int) la.length
      (fun i s h1 => i ≤ la.length ∧ h1 = { h with lo := h.next } ∧ (∃ a b c, s = [(0, va), (1, vb), (4, Bo false), (5, a), (10, Bo false), (12, I la.length), (13, I i), (14, b), (24, c)]) ∧ (la.drop i == lb.drop i) = (la == lb))
      (fun e s h1 => h1 = { h with lo := h.next } ∧ ∃ i a b c, s = [(0, va), (1, vb), (4, Bo false), (5, a), (10, Bo false), (12, I la.length), (13, i), (14, b), (24, c)] ∧ ((e = .ret ∧ (la == lb) = false) ∨ (e = .exit 0 ∧ (la == lb) = true)))
      (s := [(0, va), (1, vb), (4, Bo false), (5, .lit undef), (10, Bo false), (12, I la.length), (13, I 0), (14, .lit undef), (24, .lit undef)]) (h := { h with lo := h.next }) (by simp) (fun i s h1 hI => hI.1) (by
        rintro i s h1 ⟨hi, rfl, ⟨a, b, c, rfl⟩, hf⟩
        unfold L0_sl_Equal_Sint_int
        by_cases hlt : i < la.length
        · have hlt2 : i < lb.length := by omega
          have hw2 := wadd (x := i) (y := 1) (by omega) (by omega)
          rw [List.drop_eq_getElem_cons hlt, List.drop_eq_getElem_cons hlt2] at hf
          have hf : ((la[i] == lb[i]) && (la.drop (i + 1) == lb.drop (i + 1))) = (la == lb) := hf
          cases hk : (la[i] == lb[i])
          · have hk' : (la[i] != lb[i]) = true := by simp [bne, hk]
            rw [hk, Bool.false_and] at hf
            simp [ha.idx, hb.idx, hlt, hlt2, ha.get, hb.get, hk', ← hf]
          · have hk' : (la[i] != lb[i]) = false := by simp [bne, hk]
            rw [hk, Bool.true_and] at hf
            simp [ha.idx, hb.idx, hlt, hlt2, ha.get, hb.get, hk', hw2, hf]
            omega
        · have : i = la.length := by omega
          subst this
          rw [List.drop_length, hle, List.drop_length] at hf
          have hf : true = (la == lb) := hf
          simp [← hf])
    rw [he]
    obtain ⟨rfl, i, a, b, c, rfl, ⟨rfl, hk⟩ | ⟨rfl, hk⟩⟩ := hq <;> simp [hk]
  · have hne : (la == lb) = false := by
      cases hk : (la == lb)
      · rfl
      · have : la = lb := by simpa using hk
        subst this
        simp at hc
    simp [ha.len, hb.len, hc, hne]

/-! Ascending, each once, in a range. -/
def setF (n : Int) : Option Int → List Int → Bool
  | _, [] => true
  | pre, k :: l => (decide (0 ≤ k) && decide (k ≤ n - 1)) && !(match pre with | some p => decide (p ≥ k) | none => false) && setF n (some k) l

theorem s_l29Set (g : Good X) {v : AV} {l : List Int} (hl : SVI v l) (bl : l.length ≤ 2 ^ 40) (n : Int) (bn : -2 ^ 62 ≤ n ∧ n < 2 ^ 62) (h : Hp) :
    Pc (pk X) 61 [v, I n] h = some (Bo (setF n none l), h) := by
  refine r_s_l29Set g ?_
  unfold cc_s_l29Set
  simp
  obtain ⟨e, s', h', he, hq⟩ := for_rule (b := evC (pk X).T (Pc (pk X)) L0_s_l29Set) l.length
    (fun i s h1 => i ≤ l.length ∧ h1 = { h with lo := h.next } ∧ (∃ a b, s = [(0, v), (1, I n), (4, Bo false), (5, I i), (9, a), (35, b)]) ∧ setF n (if i = 0 then none else l[i - 1]?) (l.drop i) = setF n none l)
    (fun e s h1 => h1 = { h with lo := h.next } ∧ ∃ a b c, s = [(0, v), (1, I n), (4, Bo false), (5, c), (9, a), (35, b)] ∧ ((e = .ret ∧ setF n none l = false) ∨ (e = .exit 0 ∧ setF n none l = true)))
    (s := [(0, v), (1, I n), (4, Bo false), (5, I 0), (9, .lit undef), (35, .lit undef)]) (h := { h with lo := h.next }) (by simp) (fun i s h1 hI => hI.1) (by
      rintro i s h1 ⟨hi, rfl, ⟨a, b, rfl⟩, hf⟩
      unfold L0_s_l29Set
      by_cases hlt : i < l.length
      · have hw2 := wadd (x := i) (y := 1) (by omega) (by omega)
        have hw3 := wsub (x := n) (y := 1) (by omega) (by omega)
        rw [List.drop_eq_getElem_cons hlt] at hf
        simp only [setF] at hf
        have e1 : (if i + 1 = 0 then none else l[i + 1 - 1]?) = some l[i] := by simp [hlt]
        cases hc1 : (decide (0 ≤ l[i]) && decide (l[i] ≤ n - 1))
        · simp only [hc1, Bool.false_and] at hf
          simp [hl.idx, hl.len, hlt, hl.get, hw3, s_l1In g, hc1, ← hf]
        · by_cases h0 : i = 0
          · subst h0
            simp only [hc1, if_true, Bool.not_false, Bool.true_and] at hf
            have hidx0 := hl.idx (X := X) { rows := h.rows, next := h.next, lo := h.next } hlt
            simp only [Int.natCast_zero] at hidx0
            rw [Nat.zero_add, List.drop_one] at hf
            have hw5 : IntKind.i64.wrap 1 = 1 := wrap64 (by omega) (by omega)
            simp [hidx0, hl.len, hlt, hl.get, hw5, hw3, s_l1In g, hc1, hf]
            omega
          · have hpos : 0 < i := by omega
            have hw4 := wsub (x := i) (y := 1) (by omega) (by omega)
            have hm : i - 1 < l.length := by omega
            have e2 : ((i : Int) - 1).toNat = i - 1 := by omega
            have hid := hl.idxi (X := X) (k := (i : Int) - 1) (by omega) (by omega)
            rw [e2] at hid
            simp only [h0, if_false, List.getElem?_eq_getElem hm, hc1, Bool.true_and] at hf
            cases hc2 : decide (l[i - 1] ≥ l[i])
            · simp only [hc2, Bool.not_false, Bool.true_and] at hf
              simp only [ge_iff_le] at hc2
              simp [hl.idx, hl.len, hlt, hl.get, hw2, hw3, hw4, s_l1In g, hc1, hid, hm, hc2, hpos, hf, h0]
              omega
            · simp only [hc2, Bool.not_true, Bool.false_and] at hf
              simp only [ge_iff_le] at hc2
              simp [hl.idx, hl.len, hlt, hl.get, hw2, hw3, hw4, s_l1In g, hc1, hid, hm, hc2, hpos, ← hf, h0]
      · have : i = l.length := by omega
        subst this
        rw [List.drop_length] at hf
        simp only [setF] at hf
        simp [hl.len, ← hf])
  rw [he]
  obtain ⟨rfl, a, b, c, rfl, ⟨rfl, hk⟩ | ⟨rfl, hk⟩⟩ := hq <;> simp [hk]
end Go.Proofs.Ev
end
section
/- The functions: observations. -/
set_option maxHeartbeats 4000000
set_option linter.unusedVariables false
set_option linter.unusedSimpArgs false
namespace Go.Proofs.Ev
open Go Go.RowKit
variable {X : FuncId → Option (List AV → Hp → Option (AV × Hp))}

structure Sn where
  p : Int
  o : Int
  t : Int
  d : Int
  bad : Bool
abbrev snc (x : Sn) : List AV := [I x.p, I x.o, I x.t, I x.d, Bo x.bad]
theorem sn_uni (l : List Sn) : ∀ c ∈ l.map snc, c.length = 5 := by
  intro c hc
  obtain ⟨p, _, rfl⟩ := List.mem_map.1 hc
  rfl
theorem sn_len {v : AV} {l : List Sn} (hs : SV v (l.map snc)) (h : Hp) : lenA (pk X).T h 39 v = some (I l.length) := by
  have := hs.len (X := X) 39 h (by simp [slT])
  simpa using this
theorem sn_at {v : AV} {l : List Sn} (hs : SV v (l.map snc)) {k : Nat} (hk : k < l.length) (h : Hp) : idxAddr (pk X).T h 39 v (I k) = some (.elem v k 0) :=
  hs.at_ (X := X) 39 (by simp) t_89 (by simpa using hk) (by simp [snc]) h
theorem sn_ati {v : AV} {l : List Sn} (hs : SV v (l.map snc)) {k : Int} (h0 : 0 ≤ k) (hk : k < l.length) (h : Hp) : idxAddr (pk X).T h 39 v (I k) = some (.elem v k.toNat 0) := by
  obtain ⟨n, rfl⟩ := Int.eq_ofNat_of_zero_le h0
  exact sn_at hs (by omega) h

def seenF (probes now : Int) : Int → List Sn → Bool
  | _, [] => true
  | last, x :: l => (decide (0 ≤ x.p) && decide (x.p < probes)) && (decide (0 ≤ x.o) && decide (x.o < 6)) && (decide (last ≤ x.t) && decide (x.t ≤ now)) && (decide (0 ≤ x.d) && decide (x.d ≤ 1000)) && !(x.bad && x.d != 0) && seenF probes now x.t l
def areSeen (l : List Sn) (probes now : Int) : Bool := !(decide ((l.length : Int) > 60)) && seenF probes now 0 l

theorem i_AreSeen (g : Good X) {v : AV} {l : List Sn} (hs : SV v (l.map snc)) (bl : l.length ≤ 2 ^ 40) (probes now : Int) (h : Hp) :
    Pc (pk X) 78 [v, I probes, I now] h = some (Bo (areSeen l probes now), h) := by
  refine r_i_AreSeen g ?_
  unfold cc_i_AreSeen
  have hlen := sn_len (X := X) hs
  cases hc0 : decide ((l.length : Int) > 60)
  · simp only [gt_iff_lt] at hc0
    simp [hlen, hc0, areSeen]
    obtain ⟨e, s', h', he, hq⟩ := for_rule (b := evC (pk X).T (Pc (pk X)) L0_i_AreSeen) l.length
      (fun i s h1 => i ≤ l.length ∧ (h1.lo = h.next ∧ h.next ≤ h1.next) ∧ (∃ last a b c, s = [(0, v), (1, I probes), (2, I now), (6, Bo false), (7, I last), (9, a), (12, Bo false), (13, v), (14, I l.length), (15, I i), (16, b), (52, c)] ∧ seenF probes now last (l.drop i) = seenF probes now 0 l))
      (fun e s h1 => ∃ i last a b c, s = [(0, v), (1, I probes), (2, I now), (6, Bo false), (7, last), (9, a), (12, Bo false), (13, v), (14, I l.length), (15, i), (16, b), (52, c)] ∧ ((e = .ret ∧ seenF probes now 0 l = false) ∨ (e = .exit 0 ∧ seenF probes now 0 l = true)))
      (s := [(0, v), (1, I probes), (2, I now), (6, Bo false), (7, I 0), (9, .lit undef), (12, Bo false), (13, v), (14, I l.length), (15, I 0), (16, .lit undef), (52, .lit undef)]) (h := { h with lo := h.next }) (by simp) (fun i s h1 hI => hI.1) (by
        rintro i s h1 ⟨hi, ⟨hb1, hb2⟩, last, a, b, c, rfl, hf⟩
        unfold L0_i_AreSeen
        by_cases hlt : i < l.length
        · have hw2 := wadd (x := i) (y := 1) (by omega) (by omega)
          have hlo2 : h1.lo ≤ h1.next := by omega
          rw [List.drop_eq_getElem_cons hlt] at hf
          simp only [seenF] at hf
          have hat := sn_at (X := X) hs hlt
          generalize hx : l[i] = x at hf
          obtain ⟨p, o, t, d, bad⟩ := x
          simp only at hf
          cases hc1 : (decide (0 ≤ p) && decide (p < probes))
          · simp only [hc1, Bool.false_and] at hf
            simp [alloc, stor, addRow, hlo2, hat, hlt, hs.get, hx, i_at g, hc1, ← hf]
          cases hc2 : (decide (0 ≤ o) && decide (o < 6))
          · simp only [hc1, hc2, Bool.and_false, Bool.false_and] at hf
            simp [alloc, stor, addRow, hlo2, hat, hlt, hs.get, hx, i_at g, hc1, hc2, ← hf]
          cases hc3 : (decide (last ≤ t) && decide (t ≤ now))
          · simp only [hc1, hc2, hc3, Bool.and_false, Bool.false_and] at hf
            simp [alloc, stor, addRow, hlo2, hat, hlt, hs.get, hx, i_at g, i_InRange g, hc1, hc2, hc3, ← hf]
          cases hc4 : (decide (0 ≤ d) && decide (d ≤ 1000))
          · simp only [hc1, hc2, hc3, hc4, Bool.and_false, Bool.false_and] at hf
            simp [alloc, stor, addRow, hlo2, hat, hlt, hs.get, hx, i_at g, i_InRange g, hc1, hc2, hc3, hc4, ← hf]
          cases bad
          · simp only [hc1, hc2, hc3, hc4, Bool.and_self, Bool.false_and, Bool.not_false, Bool.true_and] at hf
            simp [alloc, stor, addRow, hlo2, hat, hlt, hs.get, hx, i_at g, i_InRange g, hc1, hc2, hc3, hc4, hw2, hf]
            omega
          · cases hc5 : (d != 0)
            · simp only [hc1, hc2, hc3, hc4, hc5, Bool.and_self, Bool.true_and, Bool.not_false] at hf
              simp [alloc, stor, addRow, hlo2, hat, hlt, hs.get, hx, i_at g, i_InRange g, hc1, hc2, hc3, hc4, hc5, hw2, hf]
              omega
            · simp only [hc1, hc2, hc3, hc4, hc5, Bool.and_self, Bool.not_true, Bool.and_false, Bool.false_and] at hf
              simp [alloc, stor, addRow, hlo2, hat, hlt, hs.get, hx, i_at g, i_InRange g, hc1, hc2, hc3, hc4, hc5, ← hf]
        · have : i = l.length := by omega
          subst this
          rw [List.drop_length] at hf
          simp only [seenF] at hf
          simp [← hf])
    rw [he]
    obtain ⟨i, last, a, b, c, rfl, ⟨rfl, hk⟩ | ⟨rfl, hk⟩⟩ := hq <;> simp [hk]
  · simp only [gt_iff_lt] at hc0
    simp [hlen, hc0, areSeen]

theorem s_AreSeen (g : Good X) {v : AV} {l : List Sn} (hs : SV v (l.map snc)) (bl : l.length ≤ 2 ^ 40) (probes now : Int) (h : Hp) :
    Pc (pk X) 64 [v, I probes, I now] h = some (Bo (areSeen l probes now), h) := by
  refine r_s_AreSeen g ?_
  unfold cc_s_AreSeen
  have hlen := sn_len (X := X) hs
  simp [areSeen]
  obtain ⟨e, s', h', he, hq⟩ := for_rule (b := evC (pk X).T (Pc (pk X)) L0_s_AreSeen) l.length
    (fun i s h1 => i ≤ l.length ∧ (h1.lo = h.next ∧ h.next ≤ h1.next) ∧ (∃ a b c d, s = [(0, v), (1, I probes), (2, I now), (6, Bo false), (7, I i), (8, a), (12, b), (46, c), (68, d)]) ∧
      ∃ last, 0 ≤ last ∧ (i = 0 → last = 0) ∧ (∀ j x, i = j + 1 → l[j]? = some x → x.t = last) ∧ seenF probes now last (l.drop i) = seenF probes now 0 l)
    (fun e s h1 => ∃ i a b c d, s = [(0, v), (1, I probes), (2, I now), (6, Bo false), (7, i), (8, a), (12, b), (46, c), (68, d)] ∧ ((e = .ret ∧ seenF probes now 0 l = false) ∨ (e = .exit 0 ∧ seenF probes now 0 l = true)))
    (s := [(0, v), (1, I probes), (2, I now), (6, Bo false), (7, I 0), (8, .lit undef), (12, .lit undef), (46, .lit undef), (68, .lit undef)]) (h := { h with lo := h.next }) ⟨by omega, ⟨rfl, Nat.le_refl _⟩, ⟨_, _, _, _, rfl⟩, 0, by omega, fun _ => rfl, fun j x hj => by omega, rfl⟩ (fun i s h1 hI => hI.1) (by
      rintro i s h1 ⟨hi, ⟨hb1, hb2⟩, ⟨a, b, c, d', rfl⟩, last, hl0, hl1, hl2, hf⟩
      unfold L0_s_AreSeen
      by_cases hlt : i < l.length
      · have hw2 := wadd (x := i) (y := 1) (by omega) (by omega)
        have hlo2 : h1.lo ≤ h1.next := by omega
        rw [List.drop_eq_getElem_cons hlt] at hf
        simp only [seenF] at hf
        have hat := sn_at (X := X) hs hlt
        have hli : l[i]? = some l[i] := by simp [hlt]
        generalize hx : l[i] = x at hf hli
        obtain ⟨p, o, t, d, bad⟩ := x
        simp only at hf
        have e1 : decide (o < 6) = decide (o ≤ 5) := by simp; omega
        rw [e1] at hf
        have fin : (decide (0 ≤ p) && decide (p < probes)) = true → (decide (0 ≤ o) && decide (o ≤ 5)) = true → (decide (0 ≤ t) && decide (t ≤ now)) = true → (decide (last ≤ t)) = true → (decide (0 ≤ d) && decide (d ≤ 1000)) = true → (bad && d != 0) = false →
            ∃ last', 0 ≤ last' ∧ (i + 1 = 0 → last' = 0) ∧ (∀ j x, i + 1 = j + 1 → l[j]? = some x → x.t = last') ∧ seenF probes now last' (l.drop (i + 1)) = seenF probes now 0 l := by
          intro g1 g2 g3 g4 g5 g6
          have g3' := g3
          simp only [Bool.and_eq_true, decide_eq_true_eq] at g3'
          refine ⟨t, g3'.1, fun h => by omega, fun j x hj hjx => ?_, ?_⟩
          · have : j = i := by omega
            rw [this, hli] at hjx
            injection hjx with hjx
            rw [← hjx]
          · have g7 : decide (t ≤ now) = true := by simpa using g3'.2
            rw [g1, g2, g4, g5, g6, g7] at hf
            simpa using hf
        by_cases hp0 : p < 0
        · have : decide (0 ≤ p) = false := by simp; omega
          simp only [this, Bool.false_and] at hf
          simp [alloc, stor, addRow, hlo2, hat, hlt, hlen, hs.get, hx, hp0, ← hf]
        by_cases hp1 : p < probes
        case neg =>
          have : decide (p < probes) = false := by simpa using hp1
          simp only [this, Bool.and_false, Bool.false_and] at hf
          have hp2 : probes ≤ p := by omega
          simp [alloc, stor, addRow, hlo2, hat, hlt, hlen, hs.get, hx, hp0, hp2, ← hf]
        have hp2 : ¬ probes ≤ p := by omega
        have hc1 : (decide (0 ≤ p) && decide (p < probes)) = true := by simp; omega
        cases hc2 : (decide (0 ≤ o) && decide (o ≤ 5))
        · simp only [hc2, Bool.and_false, Bool.false_and] at hf
          simp [alloc, stor, addRow, hlo2, hat, hlt, hlen, hs.get, hx, hp0, hp2, s_l1In g, hc2, ← hf]
        cases hc3 : (decide (0 ≤ t) && decide (t ≤ now))
        · have : (decide (last ≤ t) && decide (t ≤ now)) = false := by
            cases hq : (decide (last ≤ t) && decide (t ≤ now))
            · rfl
            · simp at hq hc3
              omega
          simp only [this, Bool.and_false, Bool.false_and] at hf
          simp [alloc, stor, addRow, hlo2, hat, hlt, hlen, hs.get, hx, hp0, hp2, s_l1In g, hc2, hc3, ← hf]
        cases hc4 : (decide (0 ≤ d) && decide (d ≤ 1000))
        · simp only [hc4, Bool.and_false, Bool.false_and] at hf
          simp [alloc, stor, addRow, hlo2, hat, hlt, hlen, hs.get, hx, hp0, hp2, s_l1In g, hc2, hc3, hc4, ← hf]
        cases hc5 : (bad && d != 0)
        case true =>
          simp only [hc5, Bool.not_true, Bool.and_false, Bool.false_and] at hf
          simp only [Bool.and_eq_true] at hc5
          obtain ⟨rfl, hd⟩ := hc5
          simp [alloc, stor, addRow, hlo2, hat, hlt, hlen, hs.get, hx, hp0, hp2, s_l1In g, hc2, hc3, hc4, hd, ← hf]
        by_cases h0 : i = 0
        · have hlast := hl1 h0
          have hc6 : decide (last ≤ t) = true := by simp at hc3 ⊢; omega
          have hfin := fin hc1 hc2 hc3 hc6 hc4 hc5
          subst h0
          have hat0 := hat
          simp only [Int.natCast_zero] at hat0
          have hw5 : IntKind.i64.wrap 1 = 1 := wrap64 (by omega) (by omega)
          cases bad
          · simp [alloc, stor, addRow, hlo2, hat0, hlt, hlen, hs.get, hx, hp0, hp2, s_l1In g, hc2, hc3, hc4, hw5]
            exact ⟨by omega, by omega, by simpa using hfin⟩
          · have hd : (d != 0) = false := by simpa using hc5
            simp [alloc, stor, addRow, hlo2, hat0, hlt, hlen, hs.get, hx, hp0, hp2, s_l1In g, hc2, hc3, hc4, hd, hw5]
            exact ⟨by omega, by omega, by simpa using hfin⟩
        · have hpos : 0 < i := by omega
          have hw4 := wsub (x := i) (y := 1) (by omega) (by omega)
          have hm : i - 1 < l.length := by omega
          have e2 : ((i : Int) - 1).toNat = i - 1 := by omega
          have hid := sn_ati (X := X) hs (k := (i : Int) - 1) (by omega) (by omega)
          rw [e2] at hid
          have hlast : l[i - 1].t = last := hl2 (i - 1) l[i - 1] (by omega) (by simp [hm])
          cases hc6 : decide (last ≤ t)
          · have hc7 : t < last := by simpa using hc6
            simp only [hc6, Bool.false_and, Bool.and_false] at hf
            cases bad
            · simp [alloc, stor, addRow, hlo2, hat, hlt, hlen, hs.get, hx, hp0, hp2, s_l1In g, hc2, hc3, hc4, hpos, hw4, hid, hm, hlast, hc7, ← hf]
            · have hd : (d != 0) = false := by simpa using hc5
              simp [alloc, stor, addRow, hlo2, hat, hlt, hlen, hs.get, hx, hp0, hp2, s_l1In g, hc2, hc3, hc4, hd, hpos, hw4, hid, hm, hlast, hc7, ← hf]
          · have hfin := fin hc1 hc2 hc3 hc6 hc4 hc5
            have hc7 : ¬ t < last := by simp at hc6; omega
            cases bad
            · simp [alloc, stor, addRow, hlo2, hat, hlt, hlen, hs.get, hx, hp0, hp2, s_l1In g, hc2, hc3, hc4, hpos, hw2, hw4, hid, hm, hlast, hc7]
              exact ⟨by omega, by omega, by simpa using hfin⟩
            · have hd : (d != 0) = false := by simpa using hc5
              simp [alloc, stor, addRow, hlo2, hat, hlt, hlen, hs.get, hx, hp0, hp2, s_l1In g, hc2, hc3, hc4, hd, hpos, hw2, hw4, hid, hm, hlast, hc7]
              exact ⟨by omega, by omega, by simpa using hfin⟩
      · have : i = l.length := by omega
        subst this
        rw [List.drop_length] at hf
        simp only [seenF] at hf
        simp [hlen, ← hf])
  rw [he]
  have e0 : decide ((l.length : Int) ≤ 60) = !decide (60 < (l.length : Int)) := by
    cases hq : decide (60 < (l.length : Int)) <;> simp at hq ⊢ <;> omega
  obtain ⟨i, a, b, c, d, rfl, ⟨rfl, hk⟩ | ⟨rfl, hk⟩⟩ := hq
  · simp [hk]
  · simp [hk, hlen, e0]
end Go.Proofs.Ev
end
section
/- The functions: clones, sorted rows, sets. -/
set_option linter.unusedVariables false
set_option linter.unusedSimpArgs false
namespace Go.Proofs.Ev
open Go Go.RowKit
variable {X : FuncId → Option (List AV → Hp → Option (AV × Hp))}

/-- What a clone of a row of ints comes to. -/
def Cloned (l : List Int) (v : AV) (h h1 : Hp) : Prop :=
  (l = [] ∧ v = .nilS ∧ h1 = h) ∨ (l = [] ∧ v = .imm true [] ∧ h1 = h) ∨ (l ≠ [] ∧ v = .own h.next ∧ h1 = addRow h 3 1 (l.map fun n => [I n]))

theorem row_ok (l : List Int) : rowOk 1 (l.map fun n => [I n]) = true := by simp [rowOk]

theorem sl_Clone_int (g : Good X) {v : AV} {l : List Int} (hl : SVI v l) (bl : l.length ≤ 2 ^ 32) (h : Hp) :
    ∃ v1 h1, Pc (pk X) 117 [v] h = some (v1, h1) ∧ Cloned l v1 h h1 := by
  refine r_sl_Clone_Sint_int g ?_
  unfold cc_sl_Clone_Sint_int
  rcases hl with ⟨rfl, e⟩ | ⟨x, rfl⟩
  · have : l = [] := by simpa using e
    subst this
    simp [bin, isNil, Cloned]
  · cases l with
    | nil => simp [bin, isNil, Cloned, buildSlice, lits, app, rowOk]
    | cons n l =>
      have hr := row_ok (n :: l)
      simp only [List.map_cons, List.length_cons] at hr bl
      have : l.length + 1 ≤ most := by unfold most; omega
      simp [bin, isNil, Cloned, buildSlice, lits, app, hr, rowOk, this]

theorem frzL_int (h : Hp) (n0 k : Nat) (n : Int) : frzL h n0 (k + 2) [I n] = some [I n] := by simp [frzL, frz]
theorem frzEs_ints (h : Hp) (n0 k : Nat) : ∀ l : List Int, frzEs h n0 (k + 3) (l.map fun n => [I n]) = some (l.map fun n => [I n])
  | [] => by simp [frzEs]
  | n :: l => by
    have := frzEs_ints h n0 k l
    simp only [List.map_cons, frzEs, frzL_int, this]
theorem frz_own_ints (h : Hp) (n0 : Nat) {id : Nat} {r : Row} {l : List Int} (hn : n0 ≤ id) (hr : h.rows id = some r) (he : r.es = l.map fun n => [I n]) : frz h n0 40 (.own id) = some (.imm false (l.map fun n => [I n])) := by
  show frz h n0 (39 + 1) _ = _
  simp only [frz, hn, if_true, hr, he]
  rw [show (39 : Nat) = 36 + 3 by rfl, frzEs_ints]
  rfl
@[simp] theorem frz_imm0 (h : Hp) (n0 : Nat) (x : Bool) : frz h n0 40 (.imm x []) = some (.imm x []) := by
  show frz h n0 (39 + 1) _ = _
  simp only [frz]
  rw [show (39 : Nat) = 38 + 1 by rfl]
  simp [frzEs]

def sortedL (l : List Int) : List Int := Lib.compact (l.mergeSort fun x y => decide (x ≤ y))
theorem sortedL_nil : sortedL [] = [] := by simp [sortedL, Lib.compact, Lib.compactUpTo]

theorem i_sorted (g : Good X) {v : AV} {l : List Int} (hl : SVI v l) (bl : l.length ≤ 2 ^ 32) (h : Hp) :
    ∃ v', Pc (pk X) 105 [v] h = some (v', h) ∧ SVI v' (sortedL l) := by
  obtain ⟨v1, h1, hc, hk⟩ := sl_Clone_int g hl bl { h with lo := h.next }
  have hS := run_X g.sort
  have hK := run_X g.comp
  rcases hk with ⟨rfl, rfl, rfl⟩ | ⟨rfl, rfl, rfl⟩ | ⟨hne, rfl, rfl⟩
  · refine ⟨.nilS, r_i_sorted g ?_, .inl ⟨rfl, by simp [sortedL_nil]⟩⟩
    unfold cc_i_sorted
    simp [hc, hS, hK, sortX, compX]
  · refine ⟨.imm true [], r_i_sorted g ?_, .inr ⟨true, by simp [sortedL_nil]⟩⟩
    unfold cc_i_sorted
    simp [hc, hS, hK, sortX, compX]
  · refine ⟨.imm false ((sortedL l).map fun n => [I n]), r_i_sorted g ?_, .inr ⟨false, rfl⟩⟩
    unfold cc_i_sorted
    have hlen : (l.mergeSort fun x y => decide (x ≤ y)).length = l.length := by simp
    have b1 : l.length < 4611686018427387904 := by omega
    have b2 : l.length ≤ 9223372036854775807 := by omega
    simp [hc, hS, hK, sortX, compX, addRow, intsOf_map, b1, b2]
    exact frz_own_ints (l := sortedL l) _ _ (by simp) (by simp; rfl) rfl

theorem i_isSet (g : Good X) {v : AV} {l : List Int} (hl : SVI v l) (bl : l.length ≤ 2 ^ 32) (n : Int) (bn : -2 ^ 62 ≤ n ∧ n < 2 ^ 62) (h : Hp) :
    Pc (pk X) 75 [v, I n] h = some (Bo ((l.all fun x => decide (0 ≤ x) && decide (x ≤ n - 1)) && (sortedL l == l)), h) := by
  refine r_i_isSet g ?_
  unfold cc_i_isSet
  have hw3 := wsub (x := n) (y := 1) (by omega) (by omega)
  have hA := i_allIn g hl 0 (n - 1)
  obtain ⟨v', hs, hv'⟩ := i_sorted g hl bl { h with lo := h.next }
  have hlen : (sortedL l).length ≤ l.length := by
    unfold sortedL Lib.compact Lib.compactUpTo
    rw [List.length_map]
    refine Nat.le_trans (List.length_filter_le _ _) ?_
    simp
  have hE := sl_Equal_int g hv' hl (by omega) { h with lo := h.next }
  cases hc : (l.all fun x => decide (0 ≤ x) && decide (x ≤ n - 1))
  · simp [hw3, hA _ (by omega), hc]
  · simp [hw3, hA _ (by omega), hc, hs, hE]
end Go.Proofs.Ev
end
section
/- Plain law: a row is sorted and compact just where it ascends. -/
set_option linter.unusedVariables false
set_option linter.unusedSimpArgs false
namespace Go.Proofs.Ev
open Go Go.RowKit

def ascF : Option Int → List Int → Bool
  | _, [] => true
  | pre, k :: l => (match pre with | some p => decide (p < k) | none => true) && ascF (some k) l

theorem setF_eq (n : Int) : ∀ (l : List Int) (pre : Option Int), setF n pre l = ((l.all fun x => decide (0 ≤ x) && decide (x ≤ n - 1)) && ascF pre l)
  | [], pre => by cases pre <;> rfl
  | k :: l, pre => by
    have e := setF_eq n l (some k)
    cases pre with
    | none =>
      simp only [setF, List.all_cons, ascF, e]
      cases (decide (0 ≤ k) && decide (k ≤ n - 1)) <;> cases (l.all fun x => decide (0 ≤ x) && decide (x ≤ n - 1)) <;> rfl
    | some p =>
      have h : (!decide (p ≥ k)) = decide (p < k) := by
        by_cases h : p < k
        · have : ¬ p ≥ k := by omega
          simp [h, this]
        · have : p ≥ k := by omega
          simp [h, this]
      simp only [setF, List.all_cons, ascF, e, h]
      cases (decide (0 ≤ k) && decide (k ≤ n - 1)) <;> cases decide (p < k) <;> cases (l.all fun x => decide (0 ≤ x) && decide (x ≤ n - 1)) <;> rfl

/-- Ascending, each once. -/
theorem asc_iff : ∀ (l : List Int) (pre : Option Int), ascF pre l = true ↔ (l.Pairwise (· < ·) ∧ ∀ p, pre = some p → ∀ x ∈ l, p < x)
  | [], pre => by simp [ascF]
  | k :: l, pre => by
    simp only [ascF, Bool.and_eq_true, asc_iff l (some k), List.pairwise_cons]
    constructor
    · rintro ⟨h1, h2, h3⟩
      refine ⟨⟨h3 k rfl, h2⟩, fun p hp x hx => ?_⟩
      subst hp
      have h1 : p < k := by simpa using h1
      rcases List.mem_cons.1 hx with rfl | hx
      · exact h1
      · have := h3 k rfl x hx
        omega
    · rintro ⟨⟨h1, h2⟩, h3⟩
      refine ⟨?_, h2, fun p hp x hx => by injection hp with hp; subst hp; exact h1 x hx⟩
      cases pre with
      | none => rfl
      | some p => simpa using h3 p rfl k (by simp)

theorem compact_asc (l : List Int) (h : l.Pairwise (· < ·)) : Lib.compact l = l := by
  unfold Lib.compact Lib.compactUpTo
  have : (List.range l.length).filter (Lib.keeps l.toArray) = List.range l.length := by
    rw [List.filter_eq_self]
    intro j hj
    rw [List.mem_range] at hj
    unfold Lib.keeps
    simp only [decide_eq_true_eq]
    by_cases h0 : j = 0
    · exact .inl h0
    · refine .inr ?_
      have := List.pairwise_iff_getElem.1 h (j - 1) j (by omega) hj (by omega)
      rw [getElem!_pos _ _ (by simpa using hj), getElem!_pos _ _ (by simp; omega)]
      simp only [List.getElem_toArray]
      omega
  rw [this]
  refine List.ext_getElem (by simp) fun i h1 h2 => ?_
  simp at h1
  simp [h1]

theorem compact_sorted (l : List Int) (h : l.Pairwise (· ≤ ·)) : (Lib.compact l).Pairwise (· < ·) := by
  unfold Lib.compact Lib.compactUpTo
  rw [List.pairwise_map, List.pairwise_filter]
  refine List.Pairwise.imp_of_mem (R := fun a b => a < b) ?_ List.pairwise_lt_range
  intro i j hi hj hij ki kj
  rw [List.mem_range] at hi hj
  unfold Lib.keeps at kj
  simp only [decide_eq_true_eq] at kj
  have hk := kj.resolve_left (by omega)
  rw [getElem!_pos _ _ (by simpa using hj), getElem!_pos _ _ (by simp; omega)] at hk
  rw [getElem!_pos _ i (by simpa using hi), getElem!_pos _ j (by simpa using hj)]
  simp only [List.getElem_toArray] at hk ⊢
  have h1 : l[i] ≤ l[j - 1] := by
    by_cases e : i = j - 1
    · subst e; omega
    · exact List.pairwise_iff_getElem.1 h i (j - 1) (by omega) (by omega) (by omega)
  have h2 := List.pairwise_iff_getElem.1 h (j - 1) j (by omega) hj (by omega)
  omega

theorem sortedL_iff (l : List Int) : (sortedL l == l) = ascF none l := by
  have hs : (l.mergeSort fun x y => decide (x ≤ y)).Pairwise (· ≤ ·) := by
    have := List.pairwise_mergeSort (le := fun x y : Int => decide (x ≤ y)) (fun a b c => by simp; omega) (fun a b => by simp; omega) l
    exact this.imp (by simp)
  cases h : ascF none l
  · have : ¬ sortedL l = l := by
      intro e
      have h1 := compact_sorted _ hs
      have h2 : ascF none l = true := (asc_iff l none).2 ⟨by rw [← e]; exact h1, fun p hp => by cases hp⟩
      rw [h2] at h
      cases h
    simpa using this
  · have h1 := ((asc_iff l none).1 h).1
    have h2 : (l.mergeSort fun x y => decide (x ≤ y)) = l := List.mergeSort_of_pairwise (h1.imp (by intro a b; simp; omega))
    have : sortedL l = l := by
      unfold sortedL
      rw [h2, compact_asc l h1]
    simpa using this

theorem isSet_eq (n : Int) (l : List Int) : ((l.all fun x => decide (0 ≤ x) && decide (x ≤ n - 1)) && (sortedL l == l)) = setF n none l := by
  rw [sortedL_iff, setF_eq]
end Go.Proofs.Ev
end
section
/- The functions: is it a world? -/
set_option maxHeartbeats 8000000
set_option maxRecDepth 100000
set_option linter.unusedVariables false
set_option linter.unusedSimpArgs false
namespace Go.Proofs.Ev
open Go Go.RowKit
variable {X : FuncId → Option (List AV → Hp → Option (AV × Hp))}

/-! A world: plain data, and the values that bear it. -/
structure Wd where
  n : Int
  links : List (Int × Int)
  delays : List Int
  down : List Int
  probes : List Prb
  owners : List Int
  liars : List Int
  bl : Int
  bc : Int
  br : Int
  bt : Int
  seen : List Sn
  now : Int
structure Wv where
  l : AV
  d : AV
  dn : AV
  p : AV
  o : AV
  li : AV
  s : AV
abbrev wcs (w : Wd) (v : Wv) : List AV := [I w.n, v.l, v.d, v.dn, v.p, v.o, v.li, I w.bl, I w.bc, I w.br, I w.bt, v.s, I w.now]
structure WOk (w : Wd) (v : Wv) : Prop where
  l : SV v.l (w.links.map lk)
  d : SVI v.d w.delays
  dn : SVI v.dn w.down
  p : SV v.p (w.probes.map prc)
  pp : PrOk w.probes
  o : SVI v.o w.owners
  li : SVI v.li w.liars
  s : SV v.s (w.seen.map snc)
  bl : w.links.length ≤ 2 ^ 32
  bd : w.delays.length ≤ 2 ^ 32
  bdn : w.down.length ≤ 2 ^ 32
  bp : w.probes.length ≤ 2 ^ 32
  bo : w.owners.length ≤ 2 ^ 32
  bli : w.liars.length ≤ 2 ^ 32
  bs : w.seen.length ≤ 2 ^ 32
  bn : -2 ^ 63 ≤ w.n ∧ w.n < 2 ^ 63

def okBucket (l c r t : Int) : Bool := (decide (0 ≤ c) && decide (c ≤ 1000)) && (decide (0 ≤ r) && decide (r ≤ 1000)) && (decide (0 ≤ l) && decide (l ≤ c)) && (decide (0 ≤ t) && decide (t ≤ 100000))
def isWorld (w : Wd) : Bool :=
  isNet w.n w.links && ((w.delays.length : Int) == w.links.length) && (w.delays.all fun x => decide (0 ≤ x) && decide (x ≤ 100)) && setF w.links.length none w.down && decide (0 < w.probes.length) &&
  areProbes w.n w.links w.probes && ((w.owners.length : Int) == w.probes.length) && (w.owners.all fun x => decide (0 ≤ x) && decide (x ≤ 5)) && setF 6 none w.liars && okBucket w.bl w.bc w.br w.bt &&
  decide (w.bt ≤ w.now) && areSeen w.seen w.probes.length w.now && (decide (0 ≤ w.now) && decide (w.now ≤ 100000))

theorem i_IsWorld (g : Good X) {w : Wd} {v : Wv} (ok : WOk w v) (h : Hp) : Pc (pk X) 34 [.agg (wcs w v)] h = some (Bo (isWorld w), h) := by
  refine r_i_IsWorld g ?_
  unfold cc_i_IsWorld
  have o1 := ok.l.one; have o2 := ok.d.one; have o3 := ok.dn.one; have o4 := ok.p.one; have o5 := ok.o.one; have o6 := ok.li.one; have o7 := ok.s.one
  have bl := ok.bl; have bd := ok.bd; have bdn := ok.bdn; have bp := ok.bp; have bo := ok.bo; have bli := ok.bli; have bs := ok.bs
  have f1 := i_IsNet g w.n ok.l (by omega) ok.bn
  have l1 := lk_len (X := X) ok.l
  have l2 := ok.d.len (X := X)
  have l3 := pr_len (X := X) ok.p
  have l4 := ok.o.len (X := X)
  have f2 := fun h => i_allIn g ok.d 0 100 h (by omega)
  have f3 := fun h => i_isSet g ok.dn ok.bdn (w.links.length : Int) (by omega) h
  have f4 := i_AreProbes g w.n ok.l ok.p ok.pp (by omega) (by omega) ok.bn
  have f5 := fun h => i_allIn g ok.o 0 5 h (by omega)
  have f6 := fun h => i_isSet g ok.li ok.bli 6 (by omega) h
  have f7 := i_IsBucket g w.bl w.bc w.br w.bt
  have f8 := i_AreSeen g ok.s (by omega) (w.probes.length : Int) w.now
  have f9 := i_InRange g w.now 0 100000
  simp only [isSet_eq] at f3 f6
  unfold isWorld okBucket
  generalize hrow : updR h.rows h.next (some ⟨41, 13, [wcs w v]⟩) = rows
  have hr : rows h.next = some ⟨41, 13, [wcs w v]⟩ := by rw [← hrow]; simp
  have hbox : box (pk X).T { rows := h.rows, next := h.next, lo := h.next } 41 (.agg (wcs w v)) = some (.elem (.own h.next) 0 0, { rows := rows, next := h.next + 1, lo := h.next }) := by
    simp [box, addRow, o1, o2, o3, o4, o5, o6, o7, hrow]
  generalize ((decide (0 ≤ w.bc) && decide (w.bc ≤ 1000)) && (decide (0 ≤ w.br) && decide (w.br ≤ 1000)) && (decide (0 ≤ w.bl) && decide (w.bl ≤ w.bc)) && (decide (0 ≤ w.bt) && decide (w.bt ≤ 100000))) = c10 at f7 ⊢
  cases c1 : isNet w.n w.links
  · simp [hbox, hr, f1, c1]
  cases c2 : ((w.delays.length : Int) == w.links.length)
  · simp [hbox, hr, f1, c1, l1, l2, c2]
  cases c3 : (w.delays.all fun x => decide (0 ≤ x) && decide (x ≤ 100)) <;> rw [c3] at f2
  · simp [hbox, hr, f1, c1, l1, l2, c2, f2]
  cases c4 : setF w.links.length none w.down <;> rw [c4] at f3
  · simp [hbox, hr, f1, c1, l1, l2, c2, f2, f3]
  cases c5 : decide (0 < w.probes.length)
  · simp only [decide_eq_false_iff_not] at c5
    simp [hbox, hr, f1, c1, l1, l2, c2, f2, f3, l3, c5]
  simp only [decide_eq_true_eq] at c5
  cases c6 : areProbes w.n w.links w.probes <;> rw [c6] at f4
  · simp [hbox, hr, f1, c1, l1, l2, c2, f2, f3, l3, c5, f4]
  cases c7 : ((w.owners.length : Int) == w.probes.length)
  · simp [hbox, hr, f1, c1, l1, l2, c2, f2, f3, l3, c5, f4, l4, c7]
  cases c8 : (w.owners.all fun x => decide (0 ≤ x) && decide (x ≤ 5)) <;> rw [c8] at f5
  · simp [hbox, hr, f1, c1, l1, l2, c2, f2, f3, l3, c5, f4, l4, c7, f5]
  cases c9 : setF 6 none w.liars <;> rw [c9] at f6
  · simp [hbox, hr, f1, c1, l1, l2, c2, f2, f3, l3, c5, f4, l4, c7, f5, f6]
  cases c10
  · simp [hbox, hr, f1, c1, l1, l2, c2, f2, f3, l3, c5, f4, l4, c7, f5, f6, f7]
  cases c11 : decide (w.bt ≤ w.now)
  · simp only [decide_eq_false_iff_not] at c11
    simp [hbox, hr, f1, c1, l1, l2, c2, f2, f3, l3, c5, f4, l4, c7, f5, f6, f7, c11]
  simp only [decide_eq_true_eq] at c11
  cases c12 : areSeen w.seen w.probes.length w.now <;> rw [c12] at f8
  · simp [hbox, hr, f1, c1, l1, l2, c2, f2, f3, l3, c5, f4, l4, c7, f5, f6, f7, c11, f8]
  · simp [hbox, hr, f1, c1, l1, l2, c2, f2, f3, l3, c5, f4, l4, c7, f5, f6, f7, c11, f8, f9]
end Go.Proofs.Ev
end
section
/- The functions: is it a world, in the reference. -/
set_option maxHeartbeats 8000000
set_option maxRecDepth 100000
set_option linter.unusedVariables false
set_option linter.unusedSimpArgs false
namespace Go.Proofs.Ev
open Go Go.RowKit
variable {X : FuncId → Option (List AV → Hp → Option (AV × Hp))}

theorem all_step (p : Int → Bool) {l : List Int} {i : Nat} (hi : i < l.length) : (l.drop i).all p = (p l[i] && (l.drop (i + 1)).all p) := by
  rw [List.drop_eq_getElem_cons hi, List.all_cons]

theorem s_IsWorld (g : Good X) {w : Wd} {v : Wv} (ok : WOk w v) (h : Hp) : Pc (pk X) 26 [.agg (wcs w v)] h = some (Bo (isWorld w), h) := by
  refine r_s_IsWorld g ?_
  unfold cc_s_IsWorld
  have o1 := ok.l.one; have o2 := ok.d.one; have o3 := ok.dn.one; have o4 := ok.p.one; have o5 := ok.o.one; have o6 := ok.li.one; have o7 := ok.s.one
  have bl := ok.bl; have bd := ok.bd; have bdn := ok.bdn; have bp := ok.bp; have bo := ok.bo; have bli := ok.bli; have bs := ok.bs
  have f1 := s_IsNet g w.n ok.l (by omega) ok.bn
  have l1 := lk_len (X := X) ok.l
  have l2 := ok.d.len (X := X)
  have l3 := pr_len (X := X) ok.p
  have l4 := ok.o.len (X := X)
  have f3 := fun h => s_l29Set g ok.dn (by omega) (w.links.length : Int) (by omega) h
  have f4 := s_AreProbes g w.n ok.l ok.p ok.pp (by omega) (by omega) ok.bn
  have f6 := fun h => s_l29Set g ok.li (by omega) 6 (by omega) h
  have f7 := s_IsBucket g w.bl w.bc w.br w.bt
  have f8 := s_AreSeen g ok.s (by omega) (w.probes.length : Int) w.now
  have f9 := s_l1In g w.now 0 100000
  unfold isWorld okBucket
  generalize hrow : updR h.rows h.next (some ⟨41, 13, [wcs w v]⟩) = rows
  have hr : rows h.next = some ⟨41, 13, [wcs w v]⟩ := by rw [← hrow]; simp
  have hbox : box (pk X).T { rows := h.rows, next := h.next, lo := h.next } 41 (.agg (wcs w v)) = some (.elem (.own h.next) 0 0, { rows := rows, next := h.next + 1, lo := h.next }) := by
    simp [box, addRow, o1, o2, o3, o4, o5, o6, o7, hrow]
  have lp1 : ∀ fr, fr = ([(0, .agg (wcs w v)), (1, .elem (.own h.next) 0 0), (2, Bo false), (3, I 0), (4, .lit undef), (9, .lit undef), (18, .lit undef), (23, .lit undef), (32, .lit undef), (70, .lit undef)] : Env) →
      ∃ e a b c, LoopM (evC (pk X).T (Pc (pk X)) L0_s_IsWorld) fr { rows := rows, next := h.next + 1, lo := h.next } = some (e, [(0, .agg (wcs w v)), (1, .elem (.own h.next) 0 0), (2, Bo false), (3, a), (4, .lit undef), (9, b), (18, c), (23, .lit undef), (32, .lit undef), (70, .lit undef)], { rows := rows, next := h.next + 1, lo := h.next }) ∧
        ((e = .ret ∧ (w.delays.all fun x => decide (0 ≤ x) && decide (x ≤ 100)) = false) ∨ (e = .exit 0 ∧ (w.delays.all fun x => decide (0 ≤ x) && decide (x ≤ 100)) = true)) := by
    rintro _ rfl
    obtain ⟨e, s', h', he, hq⟩ := for_rule (b := evC (pk X).T (Pc (pk X)) L0_s_IsWorld) w.delays.length
      (fun i s h1 => i ≤ w.delays.length ∧ h1 = { rows := rows, next := h.next + 1, lo := h.next } ∧ ∃ j9 j18, s = [(0, .agg (wcs w v)), (1, .elem (.own h.next) 0 0), (2, Bo false), (3, I i), (4, .lit undef), (9, j9), (18, j18), (23, .lit undef), (32, .lit undef), (70, .lit undef)] ∧ ((w.delays.drop i).all fun x => decide (0 ≤ x) && decide (x ≤ 100)) = (w.delays.all fun x => decide (0 ≤ x) && decide (x ≤ 100)))
      (fun e s h1 => h1 = { rows := rows, next := h.next + 1, lo := h.next } ∧ ∃ ji j9 j18, s = [(0, .agg (wcs w v)), (1, .elem (.own h.next) 0 0), (2, Bo false), (3, ji), (4, .lit undef), (9, j9), (18, j18), (23, .lit undef), (32, .lit undef), (70, .lit undef)] ∧ ((e = .ret ∧ (w.delays.all fun x => decide (0 ≤ x) && decide (x ≤ 100)) = false) ∨ (e = .exit 0 ∧ (w.delays.all fun x => decide (0 ≤ x) && decide (x ≤ 100)) = true)))
      (s := [(0, .agg (wcs w v)), (1, .elem (.own h.next) 0 0), (2, Bo false), (3, I 0), (4, .lit undef), (9, .lit undef), (18, .lit undef), (23, .lit undef), (32, .lit undef), (70, .lit undef)]) (h := { rows := rows, next := h.next + 1, lo := h.next }) ⟨Nat.zero_le _, rfl, _, _, rfl, by simp⟩ (fun i s h1 hI => hI.1) (by
        rintro i s h1 ⟨hi, rfl, j9, j18, rfl, hf⟩
        unfold L0_s_IsWorld
        by_cases hlt : i < w.delays.length
        · have hw2 := wadd (x := i) (y := 1) (by omega) (by omega)
          rw [all_step _ hlt] at hf
          cases hc : (decide (0 ≤ w.delays[i]) && decide (w.delays[i] ≤ 100))
          · simp only [hc, Bool.false_and] at hf
            simp [hr, l2, hlt, ok.d.idx, ok.d.get, s_l1In g, hc, ← hf]
          · simp only [hc, Bool.true_and] at hf
            simp [hr, l2, hlt, ok.d.idx, ok.d.get, s_l1In g, hc, hw2, hf]
            omega
        · have : i = w.delays.length := by omega
          subst this
          rw [List.drop_length, List.all_nil] at hf
          simp [hr, l2, ← hf])
    -- he, hq: rfl, ji, j9, j18, rfl, fin
    obtain ⟨rfl, ji, j9, j18, rfl, hq⟩ := hq
    exact ⟨_, _, _, _, he, hq⟩
  have lp2 : ∀ a b c fr, fr = ([(0, .agg (wcs w v)), (1, .elem (.own h.next) 0 0), (2, Bo false), (3, a), (4, I 0), (9, b), (18, c), (23, .lit undef), (32, .lit undef), (70, .lit undef)] : Env) →
      ∃ e d e1 e2, LoopM (evC (pk X).T (Pc (pk X)) L1_s_IsWorld) fr { rows := rows, next := h.next + 1, lo := h.next } = some (e, [(0, .agg (wcs w v)), (1, .elem (.own h.next) 0 0), (2, Bo false), (3, a), (4, d), (9, b), (18, c), (23, e1), (32, e2), (70, .lit undef)], { rows := rows, next := h.next + 1, lo := h.next }) ∧
        ((e = .ret ∧ (w.owners.all fun x => decide (0 ≤ x) && decide (x ≤ 5)) = false) ∨ (e = .exit 2 ∧ (w.owners.all fun x => decide (0 ≤ x) && decide (x ≤ 5)) = true)) := by
    rintro a b c _ rfl
    obtain ⟨e, s', h', he, hq⟩ := for_rule (b := evC (pk X).T (Pc (pk X)) L1_s_IsWorld) w.owners.length
      (fun i s h1 => i ≤ w.owners.length ∧ h1 = { rows := rows, next := h.next + 1, lo := h.next } ∧ ∃ j23 j32, s = [(0, .agg (wcs w v)), (1, .elem (.own h.next) 0 0), (2, Bo false), (3, a), (4, I i), (9, b), (18, c), (23, j23), (32, j32), (70, .lit undef)] ∧ ((w.owners.drop i).all fun x => decide (0 ≤ x) && decide (x ≤ 5)) = (w.owners.all fun x => decide (0 ≤ x) && decide (x ≤ 5)))
      (fun e s h1 => h1 = { rows := rows, next := h.next + 1, lo := h.next } ∧ ∃ ji j23 j32, s = [(0, .agg (wcs w v)), (1, .elem (.own h.next) 0 0), (2, Bo false), (3, a), (4, ji), (9, b), (18, c), (23, j23), (32, j32), (70, .lit undef)] ∧ ((e = .ret ∧ (w.owners.all fun x => decide (0 ≤ x) && decide (x ≤ 5)) = false) ∨ (e = .exit 2 ∧ (w.owners.all fun x => decide (0 ≤ x) && decide (x ≤ 5)) = true)))
      (s := [(0, .agg (wcs w v)), (1, .elem (.own h.next) 0 0), (2, Bo false), (3, a), (4, I 0), (9, b), (18, c), (23, .lit undef), (32, .lit undef), (70, .lit undef)]) (h := { rows := rows, next := h.next + 1, lo := h.next }) ⟨Nat.zero_le _, rfl, _, _, rfl, by simp⟩ (fun i s h1 hI => hI.1) (by
        rintro i s h1 ⟨hi, rfl, j23, j32, rfl, hf⟩
        unfold L1_s_IsWorld
        by_cases hlt : i < w.owners.length
        · have hw2 := wadd (x := i) (y := 1) (by omega) (by omega)
          rw [all_step _ hlt] at hf
          cases hc : (decide (0 ≤ w.owners[i]) && decide (w.owners[i] ≤ 5))
          · simp only [hc, Bool.false_and] at hf
            simp [hr, l4, hlt, ok.o.idx, ok.o.get, s_l1In g, hc, ← hf]
          · simp only [hc, Bool.true_and] at hf
            simp [hr, l4, hlt, ok.o.idx, ok.o.get, s_l1In g, hc, hw2, hf]
            omega
        · have : i = w.owners.length := by omega
          subst this
          rw [List.drop_length, List.all_nil] at hf
          simp [hr, l4, ← hf])
    -- he, hq: rfl, ji, j23, j32, rfl, fin
    obtain ⟨rfl, ji, j23, j32, rfl, hq⟩ := hq
    exact ⟨_, _, _, _, he, hq⟩
  generalize ((decide (0 ≤ w.bc) && decide (w.bc ≤ 1000)) && (decide (0 ≤ w.br) && decide (w.br ≤ 1000)) && (decide (0 ≤ w.bl) && decide (w.bl ≤ w.bc)) && (decide (0 ≤ w.bt) && decide (w.bt ≤ 100000))) = c10 at f7 ⊢
  obtain ⟨e1, a1, b1, c1, hl1, q1⟩ := lp1 _ rfl
  obtain ⟨e2, a2, b2, c2, hl2, q2⟩ := lp2 a1 b1 c1 _ rfl
  generalize (w.delays.all fun x => decide (0 ≤ x) && decide (x ≤ 100)) = c3 at q1 ⊢
  generalize (w.owners.all fun x => decide (0 ≤ x) && decide (x ≤ 5)) = c8 at q2 ⊢
  rcases q1 with ⟨rfl, rfl⟩ | ⟨rfl, rfl⟩
  · simp [hbox, hl1]
  rcases q2 with ⟨rfl, rfl⟩ | ⟨rfl, rfl⟩
  · simp [hbox, hl1, hl2]
  generalize isNet w.n w.links = c1 at f1 ⊢
  generalize setF (↑w.links.length) none w.down = c4 at f3 ⊢
  generalize areProbes w.n w.links w.probes = c6 at f4 ⊢
  generalize setF 6 none w.liars = c9 at f6 ⊢
  generalize areSeen w.seen w.probes.length w.now = c12 at f8 ⊢
  generalize (decide (0 ≤ w.now) && decide (w.now ≤ 100000)) = c13 at f9 ⊢
  have hc5 : decide (0 < w.probes.length) = !((w.probes.length : Int) == 0) := by
    generalize w.probes.length = n
    rw [Bool.eq_iff_iff]
    simp
    omega
  rw [hc5]
  generalize hq2 : ((w.delays.length : Int) == w.links.length) = c2
  generalize hq5 : ((w.probes.length : Int) == 0) = c5
  generalize hq7 : ((w.owners.length : Int) == w.probes.length) = c7
  generalize hq11 : decide (w.bt ≤ w.now) = c11
  have hq11' : (w.bt ≤ w.now) = (c11 = true) := by rw [← hq11]; simp
  cases c1
  · simp [hbox, hl1, hl2, hr, f1]
  cases c2
  · simp [hbox, hl1, hl2, hr, f1, l1, l2, bne, hq2]
  cases c4
  · simp [hbox, hl1, hl2, hr, f1, l1, l2, bne, hq2, f3]
  simp [hbox, hl1, hl2, hr, f1, l1, l2, bne, hq2, f3, l3, hq5]
  cases c5
  case true => simp
  simp [hr, f4]
  cases c6
  · simp
  simp [hr, l3, l4, hq7]
  cases c7
  · simp
  simp [hr, f6]
  cases c9
  · simp
  simp [hr, f7]
  cases c10
  · simp
  simp [hr, hq11]
  cases c11
  · simp
  simp [hr, l3, f8]
  cases c12
  · simp
  simp [hr, f9]
end Go.Proofs.Ev
end
section
/- The functions: the latest observation. -/
set_option linter.unusedVariables false
set_option linter.unusedSimpArgs false
namespace Go.Proofs.Ev
open Go Go.RowKit
variable {X : FuncId → Option (List AV → Hp → Option (AV × Hp))}

def lastN (p : Sn → Bool) (l : List Sn) : Nat → Int
  | 0 => -1
  | k + 1 => match l[k]? with
    | some x => if p x = true then k else lastN p l k
    | none => lastN p l k
def latestOf (l : List Sn) (probe : Int) (bad : Bool) : Int := lastN (fun x => x.p == probe && x.bad == bad) l l.length

theorem i_LatestOf (g : Good X) {v : AV} {l : List Sn} (hs : SV v (l.map snc)) (bl : l.length ≤ 2 ^ 40) (probe : Int) (bad : Bool) (h : Hp) :
    Pc (pk X) 128 [v, I probe, Bo bad] h = some (I (latestOf l probe bad), h) := by
  refine r_i_LatestOf g ?_
  unfold cc_i_LatestOf
  have hlen := sn_len (X := X) hs
  have hw0 := wsub (x := l.length) (y := 1) (by omega) (by omega)
  simp [hlen, hw0]
  obtain ⟨e, s', h', he, hq⟩ := for_rule (b := evC (pk X).T (Pc (pk X)) L0_i_LatestOf) l.length
    (fun i s h1 => i ≤ l.length ∧ h1 = { h with lo := h.next } ∧ (∃ a b, s = [(0, v), (1, I probe), (2, Bo bad), (6, I 0), (7, I ((l.length : Int) - i - 1)), (12, a), (30, b)]) ∧ lastN (fun x => x.p == probe && x.bad == bad) l (l.length - i) = latestOf l probe bad)
    (fun e s h1 => h1 = { h with lo := h.next } ∧ ∃ k c a b, s = [(0, v), (1, I probe), (2, Bo bad), (6, I k), (7, c), (12, a), (30, b)] ∧ ((e = .ret ∧ latestOf l probe bad = k) ∨ (e = .exit 0 ∧ latestOf l probe bad = -1)))
    (s := [(0, v), (1, I probe), (2, Bo bad), (6, I 0), (7, I ((l.length : Int) - 1)), (12, .lit undef), (30, .lit undef)]) (h := { h with lo := h.next }) (by simp [latestOf]) (fun i s h1 hI => hI.1) (by
      rintro i s h1 ⟨hi, rfl, ⟨a, b, rfl⟩, hf⟩
      unfold L0_i_LatestOf
      by_cases hlt : i < l.length
      · obtain ⟨k, hk⟩ : ∃ k, l.length - i = k + 1 := ⟨l.length - i - 1, by omega⟩
        have hkl : k < l.length := by omega
        have ek : (l.length : Int) - i - 1 = k := by omega
        have hw2 := wsub (x := k) (y := 1) (by omega) (by omega)
        have ek2 : (l.length : Int) - (i + 1) - 1 = (k : Int) - 1 := by omega
        have ek3 : l.length - (i + 1) = k := by omega
        have hat := sn_at (X := X) hs hkl
        rw [hk] at hf
        simp only [lastN, List.getElem?_eq_getElem hkl] at hf
        rw [ek]
        generalize hx : l[k] = x at hf
        obtain ⟨p, o, t, d, bd⟩ := x
        simp only at hf
        cases hc1 : (p == probe)
        · simp only [hc1, Bool.false_and, Bool.false_eq_true, if_false] at hf
          simp [hat, hs.get, hkl, hx, hc1, hw2, ek2, ek3, hf]
          omega
        · cases hc2 : (bd == bad)
          · simp only [hc1, hc2, Bool.and_false, Bool.false_eq_true, if_false] at hf
            simp [hat, hs.get, hkl, hx, hc1, hc2, hw2, ek2, ek3, hf]
            omega
          · simp only [hc1, hc2, Bool.and_self, if_true] at hf
            simp [hat, hs.get, hkl, hx, hc1, hc2, ← hf]
      · have : i = l.length := by omega
        subst this
        rw [Nat.sub_self] at hf
        simp only [lastN] at hf
        simp [← hf])
  rw [he]
  obtain ⟨rfl, k, c, a, b, rfl, ⟨rfl, hk⟩ | ⟨rfl, hk⟩⟩ := hq <;> simp [hk]

def latest (l : List Sn) (probe : Int) : Int := if latestOf l probe true > latestOf l probe false then latestOf l probe true else latestOf l probe false

theorem i_latest (g : Good X) {v : AV} {l : List Sn} (hs : SV v (l.map snc)) (bl : l.length ≤ 2 ^ 40) (probe : Int) (h : Hp) :
    Pc (pk X) 109 [v, I probe] h = some (I (latest l probe), h) := by
  refine r_i_latest g ?_
  unfold cc_i_latest
  have hL := i_LatestOf g hs bl probe
  simp [hL, latest]

theorem s_Max (g : Good X) (a b : Int) (h : Hp) : Pc (pk X) 114 [I a, I b] h = some (I (if b > a then b else a), h) := by
  refine r_s_Max g ?_
  unfold cc_s_Max
  by_cases h1 : a < b <;> simp [h1]
end Go.Proofs.Ev
end
section
/- Rows of ints that are built by appending. -/
set_option linter.unusedVariables false
set_option linter.unusedSimpArgs false
namespace Go.Proofs.Ev
open Go Go.RowKit
variable {X : FuncId → Option (List AV → Hp → Option (AV × Hp))}

/-- A row of ints under way: nil, empty, or the run's own. -/
structure OutI (h : Hp) (acc : List Int) (v : AV) (h1 : Hp) : Prop where
  lo : h1.lo = h.next
  nx : h.next ≤ h1.next
  val : (acc = [] ∧ v = .nilS) ∨ (acc = [] ∧ v = .imm true []) ∨ ∃ id, v = .own id ∧ h.next ≤ id ∧ id < h1.next ∧ h1.rows id = some ⟨3, 1, acc.map fun n => [I n]⟩

theorem OutI.push {h h1 : Hp} {acc : List Int} {v : AV} (o : OutI h acc v h1) (n : Int) (bl : acc.length < 2 ^ 31) :
    ∃ v' h2, app (pk X).T h1 25 v (.imm true [[I n]]) = some (v', h2) ∧ OutI h (acc ++ [n]) v' h2 := by
  have hm : acc.length + 1 ≤ most := by unfold most; omega
  have hm1 : 1 ≤ most := by unfold most; omega
  have hnx := o.nx
  rcases o.val with ⟨rfl, rfl⟩ | ⟨rfl, rfl⟩ | ⟨id, rfl, hid, hlt, hr⟩
  · refine ⟨_, _, by simp [app, rowOk, hm1]; exact ⟨rfl, rfl⟩, ?_⟩
    exact ⟨o.lo, by simp [addRow]; omega, .inr (.inr ⟨_, rfl, hnx, by simp [addRow], by simp [addRow]⟩)⟩
  · refine ⟨_, _, by simp [app, rowOk, hm1]; exact ⟨rfl, rfl⟩, ?_⟩
    exact ⟨o.lo, by simp [addRow]; omega, .inr (.inr ⟨_, rfl, hnx, by simp [addRow], by simp [addRow]⟩)⟩
  · have hlo : h1.lo ≤ id := by rw [o.lo]; exact hid
    refine ⟨_, _, by simp [app, rowOk, hr, hlo, hm]; exact ⟨rfl, rfl⟩, ?_⟩
    exact ⟨o.lo, by simp; omega, .inr (.inr ⟨_, rfl, hnx, by simp, by simp⟩)⟩

theorem OutI.frz {h h1 : Hp} {acc : List Int} {v : AV} (o : OutI h acc v h1) : ∃ v', Go.Proofs.Ev.frz h1 h.next 40 v = some v' ∧ SVI v' acc := by
  rcases o.val with ⟨rfl, rfl⟩ | ⟨rfl, rfl⟩ | ⟨id, rfl, hid, hlt, hr⟩
  · exact ⟨.nilS, by simp, .inl ⟨rfl, rfl⟩⟩
  · exact ⟨.imm true [], by simp, .inr ⟨true, rfl⟩⟩
  · exact ⟨_, frz_own_ints (l := acc) _ _ hid hr rfl, .inr ⟨false, rfl⟩⟩

def hasI (path : List Int) (k : Nat) : Int := if path.contains (k : Int) = true then 1 else 0
def rowOf (path : List Int) (n : Int) : List Int := if (decide (1 ≤ n) && decide (n ≤ 6)) = true then (List.range n.toNat).map (hasI path) else []

theorem s_RowOf (g : Good X) {vp : AV} {path : List Int} (hp : SVI vp path) (bp : path.length ≤ 2 ^ 40) (n : Int) (h : Hp) :
    ∃ v', Pc (pk X) 66 [vp, I n] h = some (v', h) ∧ SVI v' (rowOf path n) := by
  cases hc : (decide (1 ≤ n) && decide (n ≤ 6))
  · refine ⟨.imm true [], r_s_RowOf g ?_, by simp only [rowOf, hc]; exact .inr ⟨true, rfl⟩⟩
    unfold cc_s_RowOf
    simp [s_l1In g, hc, buildSlice, lits]
  have hc' := hc
  simp only [Bool.and_eq_true, decide_eq_true_eq] at hc'
  obtain ⟨N, hN⟩ := Int.eq_ofNat_of_zero_le (show 0 ≤ n by omega)
  subst hN
  obtain ⟨e, s', h', he, hq⟩ := for_rule (b := evC (pk X).T (Pc (pk X)) L0_s_RowOf) N
    (fun i s h1 => i ≤ N ∧ ∃ out a b c, s = [(0, vp), (1, I N), (4, .nilS), (5, out), (6, I i), (7, a), (11, Bo false), (15, b), (20, c)] ∧ OutI h ((List.range i).map (hasI path)) out h1)
    (fun e s h1 => e = .exit 0 ∧ ∃ out i a b c, s = [(0, vp), (1, I N), (4, .nilS), (5, out), (6, i), (7, a), (11, Bo false), (15, b), (20, c)] ∧ OutI h (rowOf path N) out h1)
    (s := [(0, vp), (1, I N), (4, .nilS), (5, .imm true []), (6, I 0), (7, .lit undef), (11, Bo false), (15, .lit undef), (20, .lit undef)]) (h := { h with lo := h.next })
    ⟨by omega, _, _, _, _, rfl, rfl, Nat.le_refl _, .inr (.inl ⟨rfl, rfl⟩)⟩ (fun i s h1 hI => hI.1) (by
      rintro i s h1 ⟨hi, out, a, b, c, rfl, ho⟩
      unfold L0_s_RowOf
      by_cases hlt : i < N
      · have hw2 := wadd (x := i) (y := 1) (by omega) (by omega)
        have hH := s_l7Has g hp bp (i : Int)
        cases hk : path.contains (i : Int) <;> rw [hk] at hH
        · have hI : hasI path i = 0 := by simp only [hasI, hk]; rfl
          obtain ⟨v', h2, ha, ho'⟩ := ho.push (X := X) 0 (by simp; omega)
          simp [hlt, hH, buildSlice, lits, ha, hw2]
          refine ⟨by omega, ?_⟩
          rw [List.range_succ, List.map_append]
          simp only [List.map_cons, List.map_nil, hI]
          exact ho'
        · have hI : hasI path i = 1 := by simp only [hasI, hk]; rfl
          obtain ⟨v', h2, ha, ho'⟩ := ho.push (X := X) 1 (by simp; omega)
          simp [hlt, hH, buildSlice, lits, ha, hw2]
          refine ⟨by omega, ?_⟩
          rw [List.range_succ, List.map_append]
          simp only [List.map_cons, List.map_nil, hI]
          exact ho'
      · have : i = N := by omega
        subst this
        simp
        unfold rowOf
        rw [hc]
        exact ho)
  obtain ⟨rfl, out, i, a, b, c, rfl, ho⟩ := hq
  obtain ⟨v', hz, hv⟩ := ho.frz
  refine ⟨v', r_s_RowOf g ?_, hv⟩
  unfold cc_s_RowOf
  simp [s_l1In g, hc, buildSlice, lits, he, hz]
end Go.Proofs.Ev
end
section
/- The functions: what was seen at a tick. -/
set_option linter.unusedVariables false
set_option linter.unusedSimpArgs false
namespace Go.Proofs.Ev
open Go Go.RowKit
variable {X : FuncId → Option (List AV → Hp → Option (AV × Hp))}

theorem OutI.beside {h h1 : Hp} {vs : List Int} {v : AV} (o : OutI h vs v h1) (r : Option Row) : OutI h vs v { rows := updR h1.rows h1.next r, next := h1.next + 1, lo := h1.lo } := by
  refine ⟨o.lo, Nat.le_succ_of_le o.nx, ?_⟩
  rcases o.val with hv | hv | ⟨id, hv, hid, hlt, hr⟩
  · exact .inl hv
  · exact .inr (.inl hv)
  · exact .inr (.inr ⟨id, hv, hid, Nat.lt_succ_of_lt hlt, by simp [Nat.ne_of_lt hlt, hr]⟩)

theorem lastN_lt (p : Sn → Bool) (l : List Sn) : ∀ n, lastN p l n < n
  | 0 => by simp [lastN]
  | k + 1 => by
    have := lastN_lt p l k
    simp only [lastN]
    split
    · split <;> omega
    · omega
theorem latest_lastN (l : List Sn) (q : Int) : ∀ n, n ≤ l.length → (if lastN (fun x => x.p == q && x.bad == true) l n > lastN (fun x => x.p == q && x.bad == false) l n then lastN (fun x => x.p == q && x.bad == true) l n else lastN (fun x => x.p == q && x.bad == false) l n) = lastN (fun x => x.p == q) l n
  | 0, _ => by simp [lastN]
  | k + 1, hk => by
    have ih := latest_lastN l q k (by omega)
    have h1 := lastN_lt (fun x => x.p == q && x.bad == true) l k
    have h2 := lastN_lt (fun x => x.p == q && x.bad == false) l k
    simp only [lastN, List.getElem?_eq_getElem (show k < l.length by omega)]
    generalize lastN (fun x => x.p == q && x.bad == true) l k = a at *
    generalize lastN (fun x => x.p == q && x.bad == false) l k = b at *
    by_cases hp : l[k].p = q
    · by_cases hb : l[k].bad = true
      · simp [hp, hb]
        omega
      · simp [hp, hb]
        omega
    · simpa [hp] using ih
theorem lastN_iff (p : Sn → Bool) (l : List Sn) : ∀ n, n ≤ l.length → ∀ i (hi : i < n) (hl : i < l.length), p l[i] = true → (lastN p l n == (i : Int)) = ((l.take n).drop (i + 1)).all fun y => !p y
  | 0, _, i, hi, _, _ => by omega
  | k + 1, hk, i, hi, hl, hp => by
    have hkl : k < l.length := by omega
    have hlt := lastN_lt p l k
    simp only [lastN, List.getElem?_eq_getElem hkl]
    rw [List.take_succ_eq_append_getElem hkl]
    by_cases h1 : i = k
    · subst h1
      rw [if_pos hp, List.drop_of_length_le (by simp; omega)]
      simp
    · have ih := lastN_iff p l k (by omega) i (by omega) hl hp
      rw [List.drop_append_of_le_length (by simp; omega), List.all_append, ← ih]
      cases hq : p l[k]
      · simp [hq]
      · rw [if_pos rfl]
        have : ((k : Int) == i) = false := by simp; omega
        simp [this, hq]

def seenAtP (l : List Sn) (tick : Int) (i : Nat) : Bool :=
  match l[i]? with
  | some x => x.t == tick && latest l x.p == (i : Int)
  | none => false
def seenAt (l : List Sn) (tick : Int) (n : Nat) : List Int := ((List.range n).filter (seenAtP l tick)).map fun i : Nat => (i : Int)
theorem seenAt_succ (l : List Sn) (tick : Int) (n : Nat) : seenAt l tick (n + 1) = if seenAtP l tick n = true then seenAt l tick n ++ [(n : Int)] else seenAt l tick n := by
  unfold seenAt
  rw [List.range_succ, List.filter_append, List.map_append]
  split
  · rename_i h; simp [h]
  · rename_i h; simp [h]
theorem seenAt_len (l : List Sn) (tick : Int) (n : Nat) : (seenAt l tick n).length ≤ n := by
  unfold seenAt
  rw [List.length_map]
  have := List.length_filter_le (seenAtP l tick) (List.range n)
  simpa using this
theorem seenAtP_eq {l : List Sn} (tick : Int) {i : Nat} (hi : i < l.length) : seenAtP l tick i = (l[i].t == tick && (l.drop (i + 1)).all fun y => !(y.p == l[i].p)) := by
  unfold seenAtP
  simp only [List.getElem?_eq_getElem hi]
  have h := lastN_iff (fun x => x.p == l[i].p) l l.length (Nat.le_refl _) i hi hi (by simp)
  rw [List.take_length] at h
  rw [← h, ← latest_lastN l _ l.length (Nat.le_refl _)]
  rfl

theorem i_SeenAt (g : Good X) {v : AV} {l : List Sn} (hs : SV v (l.map snc)) (bl : l.length ≤ 2 ^ 30) (tick : Int) (h : Hp) :
    ∃ v', Pc (pk X) 80 [v, I tick] h = some (v', h) ∧ SVI v' (seenAt l tick l.length) := by
  have hlen := sn_len (X := X) hs
  obtain ⟨e, s', h', he, hq⟩ := for_rule (b := evC (pk X).T (Pc (pk X)) L0_i_SeenAt) l.length
    (fun i s h1 => i ≤ l.length ∧ ∃ out j6 j7 j11 j26, s = [(0, v), (1, I tick), (4, .nilS), (5, out), (6, j6), (7, j7), (8, v), (9, I l.length), (10, I i), (11, j11), (26, j26)] ∧ OutI h (seenAt l tick i) out h1)
    (fun e s h1 => ∃ ji out j6 j7 j11 j26, s = [(0, v), (1, I tick), (4, .nilS), (5, out), (6, j6), (7, j7), (8, v), (9, I l.length), (10, ji), (11, j11), (26, j26)] ∧ e = .exit 0 ∧ OutI h (seenAt l tick l.length) out h1)
    (s := [(0, v), (1, I tick), (4, .nilS), (5, .nilS), (6, .lit undef), (7, .lit undef), (8, v), (9, I l.length), (10, I 0), (11, .lit undef), (26, .lit undef)]) (h := { h with lo := h.next }) ⟨Nat.zero_le _, _, _, _, _, _, rfl, ⟨rfl, Nat.le_refl _, .inl ⟨rfl, rfl⟩⟩⟩ (fun i s h1 hI => hI.1) (by
      rintro i s h1 ⟨hi, out, j6, j7, j11, j26, rfl, ho⟩
      unfold L0_i_SeenAt
      by_cases hlt : i < l.length
      · have hw2 := wadd (x := i) (y := 1) (by omega) (by omega)
        have hat := sn_at (X := X) hs hlt
        have hlo2 : h1.lo ≤ h1.next := by have := ho.lo; have := ho.nx; omega
        have ho2 := ho.beside (some ⟨89, 5, [snc l[i]]⟩)
        have hL := fun q => i_latest g hs (by omega) q { rows := updR h1.rows h1.next (some ⟨89, 5, [snc l[i]]⟩), next := h1.next + 1, lo := h1.lo }
        have hn := seenAt_succ l tick i
        have hbl := seenAt_len l tick i
        have hP : seenAtP l tick i = (l[i].t == tick && latest l l[i].p == (i : Int)) := by simp only [seenAtP, List.getElem?_eq_getElem hlt]
        rw [hP] at hn
        cases hc1 : (l[i].t == tick)
        · simp only [hc1, Bool.false_and, Bool.false_eq_true, if_false] at hn
          simp [hlt, hat, hs.get, alloc, stor, addRow, hlo2, hc1, hw2, hn]
          exact ⟨by omega, ho2⟩
        · cases hc2 : (latest l l[i].p == (i : Int))
          · simp only [hc1, hc2, Bool.and_false, Bool.false_eq_true, if_false] at hn
            simp [hlt, hat, hs.get, alloc, stor, addRow, hlo2, hc1, hL, hc2, hw2, hn]
            exact ⟨by omega, ho2⟩
          · simp only [hc1, hc2, Bool.and_self, if_true] at hn
            obtain ⟨v', h2, ha, ho'⟩ := ho2.push (X := X) (i : Int) (by omega)
            simp [hlt, hat, hs.get, alloc, stor, addRow, hlo2, hc1, hL, hc2, hw2, hn, buildSlice, lits, ha]
            exact ⟨by omega, ho'⟩
      · have : i = l.length := by omega
        subst this
        simp
        exact ⟨_, _, ⟨rfl, rfl⟩, ho⟩)
  -- he, hq: ji, out, j6, j7, j11, j26, rfl, fin
  obtain ⟨ji, out, j6, j7, j11, j26, rfl, rfl, ho⟩ := hq
  obtain ⟨v', hz, hv⟩ := ho.frz
  refine ⟨v', r_i_SeenAt g ?_, hv⟩
  unfold cc_i_SeenAt
  simp [hlen, he, hz]

theorem s_SeenAt (g : Good X) {v : AV} {l : List Sn} (hs : SV v (l.map snc)) (bl : l.length ≤ 2 ^ 30) (tick : Int) (h : Hp) :
    ∃ v', Pc (pk X) 65 [v, I tick] h = some (v', h) ∧ SVI v' (seenAt l tick l.length) := by
  have hlen := sn_len (X := X) hs
  obtain ⟨e, s', h', he, hq⟩ := for_rule (b := evC (pk X).T (Pc (pk X)) L1_s_SeenAt) l.length
    (fun i s h1 => i ≤ l.length ∧ ∃ out j7 j8 j13 j31 j45, s = [(0, v), (1, I tick), (4, .nilS), (5, out), (6, I i), (7, j7), (8, j8), (13, j13), (31, j31), (45, j45)] ∧ OutI h (seenAt l tick i) out h1)
    (fun e s h1 => ∃ ji out j7 j8 j13 j31 j45, s = [(0, v), (1, I tick), (4, .nilS), (5, out), (6, ji), (7, j7), (8, j8), (13, j13), (31, j31), (45, j45)] ∧ e = .exit 0 ∧ OutI h (seenAt l tick l.length) out h1)
    (s := [(0, v), (1, I tick), (4, .nilS), (5, .imm true []), (6, I 0), (7, .lit undef), (8, .lit undef), (13, .lit undef), (31, .lit undef), (45, .lit undef)]) (h := { h with lo := h.next }) ⟨Nat.zero_le _, _, _, _, _, _, _, rfl, ⟨rfl, Nat.le_refl _, .inr (.inl ⟨rfl, rfl⟩)⟩⟩ (fun i s h1 hI => hI.1) (by
      rintro i s h1 ⟨hi, out, j7, j8, j13, j31, j45, rfl, ho⟩
      unfold L1_s_SeenAt
      by_cases hlt : i < l.length
      · have hw2 := wadd (x := i) (y := 1) (by omega) (by omega)
        have hat := sn_at (X := X) hs hlt
        have hn := seenAt_succ l tick i
        have hbl := seenAt_len l tick i
        have hP := seenAtP_eq tick hlt
        simp [hlen, hlt, hat, hs.get, hw2]
        obtain ⟨e2, s2, h2, he2, rfl, ji, j7, j13, j31, j45, rfl, rfl, hb⟩ := for_rule (b := evC (pk X).T (Pc (pk X)) L0_s_SeenAt) (l.length - (i + 1))
          (fun j s h2 => j ≤ l.length - (i + 1) ∧ h2 = h1 ∧ ∃ b j13 j31 j45, s = [(0, v), (1, I tick), (4, .nilS), (5, out), (6, I i), (7, Bo b), (8, I ((i : Int) + 1 + j)), (13, j13), (31, j31), (45, j45)] ∧ (b && (l.drop (i + 1 + j)).all fun y => !(y.p == l[i].p)) = seenAtP l tick i)
          (fun e s h2 => h2 = h1 ∧ ∃ k b j13 j31 j45, s = [(0, v), (1, I tick), (4, .nilS), (5, out), (6, I i), (7, Bo b), (8, k), (13, j13), (31, j31), (45, j45)] ∧ e = .exit 2 ∧ b = seenAtP l tick i)
          (s := [(0, v), (1, I tick), (4, .nilS), (5, out), (6, I i), (7, Bo (l[i].t == tick)), (8, I ((i : Int) + 1)), (13, Bo true), (31, j31), (45, j45)]) (h := h1) ⟨Nat.zero_le _, rfl, l[i].t == tick, Bo true, j31, j45, by simp, by rw [hP]⟩ (fun i s h1 hI => hI.1) (by
            rintro j s h2 ⟨hj, rfl, b, j13, j31, j45, rfl, hb⟩
            unfold L0_s_SeenAt
            by_cases hlt2 : i + 1 + j < l.length
            · have hlt3 : (i : Int) + 1 + j < l.length := by omega
              cases b
              · simp [hlen, hlt3, ← hb]
              · have hat2 := sn_ati (X := X) hs (k := (i : Int) + 1 + j) (by omega) hlt3
                have e1 : ((i : Int) + 1 + j).toNat = i + 1 + j := by omega
                rw [e1] at hat2
                have hw3 := wadd (x := (i : Int) + 1 + j) (y := 1) (by omega) (by omega)
                rw [List.drop_eq_getElem_cons hlt2] at hb
                simp only [List.all_cons, Bool.true_and] at hb
                cases hc : (l[i + 1 + j].p == l[i].p)
                · simp only [hc, Bool.not_false, Bool.true_and] at hb
                  simp [hlen, hlt, hlt2, hlt3, hat, hat2, hs.get, hw3, bne, hc]
                  exact ⟨by omega, by omega, hb⟩
                · simp only [hc, Bool.not_true, Bool.false_and] at hb
                  simp [hlen, hlt, hlt2, hlt3, hat, hat2, hs.get, hw3, bne, hc]
                  exact ⟨by omega, by omega, hb.symm⟩
            · have e1 : ¬ (i : Int) + 1 + j < l.length := by omega
              rw [List.drop_of_length_le (by omega)] at hb
              simp only [List.all_nil, Bool.and_true] at hb
              simp [hlen, e1, ← hb])
        simp [he2]
        rw [← hb] at hn
        cases hc : j7 <;> rw [hc] at hn
        · simp only [Bool.false_eq_true, if_false] at hn
          simp [hw2, hn]
          exact ⟨by omega, ho⟩
        · simp only [if_true] at hn
          obtain ⟨v', h2, ha, ho'⟩ := ho.push (X := X) (i : Int) (by omega)
          simp [hw2, hn, buildSlice, lits, ha]
          exact ⟨by omega, ho'⟩
      · have : i = l.length := by omega
        subst this
        simp [hlen]
        exact ⟨_, _, ⟨rfl, rfl⟩, ho⟩)
  -- he, hq: ji, out, j7, j8, j13, j31, j45, rfl, fin
  obtain ⟨ji, out, j7, j8, j13, j31, j45, rfl, rfl, ho⟩ := hq
  obtain ⟨v', hz, hv⟩ := ho.frz
  refine ⟨v', r_s_SeenAt g ?_, hv⟩
  unfold cc_s_SeenAt
  simp [hlen, he, hz, buildSlice, lits]
end Go.Proofs.Ev
end
section
/- The functions: a path's row, written in place. -/
set_option linter.unusedVariables false
set_option linter.unusedSimpArgs false
namespace Go.Proofs.Ev
open Go Go.RowKit
variable {X : FuncId → Option (List AV → Hp → Option (AV × Hp))}

theorem hasI_step {path : List Int} {i : Nat} (hi : i < path.length) (k : Nat) : hasI (path.take (i + 1)) k = if path[i] = (k : Int) then 1 else hasI (path.take i) k := by
  rw [← List.take_append_getElem hi]
  unfold hasI
  by_cases h : path[i] = (k : Int)
  · simp only [List.contains_eq_mem, List.mem_append, List.mem_singleton, decide_eq_true_eq, h, or_true, if_true]
  · have h2 : ¬ (k : Int) = path[i] := fun e => h e.symm
    simp only [List.contains_eq_mem, List.mem_append, List.mem_singleton, decide_eq_true_eq, h, h2, or_false, if_false]

theorem row_step {path : List Int} {i : Nat} (hi : i < path.length) (N : Nat) : (List.range N).map (hasI (path.take (i + 1))) =
    if (decide (0 ≤ path[i]) && decide (path[i] < N)) = true then ((List.range N).map (hasI (path.take i))).set path[i].toNat 1 else (List.range N).map (hasI (path.take i)) := by
  split
  · rename_i h
    simp only [Bool.and_eq_true, decide_eq_true_eq] at h
    refine List.ext_getElem (by simp) fun k h1 h2 => ?_
    simp only [List.length_map, List.length_range] at h1
    rw [List.getElem_set]
    simp only [List.getElem_map, List.getElem_range, hasI_step hi]
    by_cases e : path[i].toNat = k
    · rw [if_pos e, if_pos (by omega)]
    · rw [if_neg e, if_neg (by omega)]
  · rename_i h
    simp only [Bool.and_eq_true, decide_eq_true_eq] at h
    refine List.ext_getElem (by simp) fun k h1 h2 => ?_
    simp only [List.length_map, List.length_range] at h1
    simp only [List.getElem_map, List.getElem_range, hasI_step hi]
    rw [if_neg (by omega)]

theorem i_RowOf (g : Good X) {vp : AV} {path : List Int} (hp : SVI vp path) (bp : path.length ≤ 2 ^ 40) (n : Int) (h : Hp) :
    ∃ v', Pc (pk X) 81 [vp, I n] h = some (v', h) ∧ SVI v' (rowOf path n) := by
  cases hc : (decide (1 ≤ n) && decide (n ≤ 6))
  · refine ⟨.nilS, r_i_RowOf g ?_, by simp only [rowOf, hc]; exact .inl ⟨rfl, rfl⟩⟩
    unfold cc_i_RowOf
    simp [i_InRange g, hc]
  have hc' := hc
  simp only [Bool.and_eq_true, decide_eq_true_eq] at hc'
  obtain ⟨N, hN⟩ := Int.eq_ofNat_of_zero_le (show 0 ≤ n by omega)
  subst hN
  obtain ⟨e, s', h', he, hq⟩ := for_rule (b := evC (pk X).T (Pc (pk X)) L0_i_RowOf) path.length
    (fun i s h1 => i ≤ path.length ∧ (∃ a b c, s = [(0, vp), (1, I N), (4, .nilS), (5, .own h.next), (7, a), (10, Bo false), (13, vp), (14, I path.length), (15, I i), (16, b), (21, c)]) ∧
      h1.lo = h.next ∧ h1.rows h.next = some ⟨3, 1, ((List.range N).map (hasI (path.take i))).map fun n => [I n]⟩)
    (fun e s h1 => e = .exit 0 ∧ (∃ a b c d, s = [(0, vp), (1, I N), (4, .nilS), (5, .own h.next), (7, a), (10, Bo false), (13, vp), (14, I path.length), (15, d), (16, b), (21, c)]) ∧
      h1.rows h.next = some ⟨3, 1, (rowOf path N).map fun n => [I n]⟩)
    (s := [(0, vp), (1, I N), (4, .nilS), (5, .own h.next), (7, .lit undef), (10, Bo false), (13, vp), (14, I path.length), (15, I 0), (16, .lit undef), (21, .lit undef)])
    (h := addRow { h with lo := h.next } 3 1 (List.replicate N [I 0]))
    ⟨by omega, ⟨_, _, _, rfl⟩, rfl, by
      simp only [addRow, updR_same, List.take_zero, List.map_map]
      congr 2
      refine (List.ext_getElem (by simp) fun k h1 h2 => ?_)
      simp [hasI]⟩ (fun i s h1 hI => hI.1) (by
      rintro i s h1 ⟨hi, ⟨a, b, c, rfl⟩, hlo, hr⟩
      unfold L0_i_RowOf
      by_cases hlt : i < path.length
      · have hw2 := wadd (x := i) (y := 1) (by omega) (by omega)
        have hst := row_step hlt N
        have hlo2 : h1.lo ≤ h.next := by omega
        cases hk : (decide (0 ≤ path[i]) && decide (path[i] < (N : Int))) <;> rw [hk] at hst
        · simp only [Bool.false_eq_true, if_false] at hst
          simp [hp.idx, hlt, hp.get, i_at g, hk, hw2]
          refine ⟨by omega, hlo, ?_⟩
          rw [hr, ← hst]
          simp
        · simp only [if_true] at hst
          have hk' := hk
          simp only [Bool.and_eq_true, decide_eq_true_eq] at hk'
          have hkn : path[i].toNat < N := by omega
          have hix : idxAddr (pk X).T h1 25 (.own h.next) (I path[i]) = some (.elem (.own h.next) path[i].toNat 0) := by
            simp [idxAddr, hr, hk'.1, hkn]
          simp [hp.idx, hlt, hp.get, i_at g, hk, hw2, hix, stor, hr, hlo2, hkn]
          refine ⟨by omega, hlo, ?_⟩
          rw [← List.map_map, ← List.map_map, hst, List.map_set]
      · have : i = path.length := by omega
        subst this
        simp
        rw [hr, List.take_length]
        unfold rowOf
        rw [hc]
        simp)
  obtain ⟨rfl, ⟨a, b, c, d, rfl⟩, hr⟩ := hq
  refine ⟨_, r_i_RowOf g ?_, .inr ⟨false, rfl⟩⟩
  have hz := frz_own_ints (l := rowOf path N) h' h.next (Nat.le_refl _) hr rfl
  unfold cc_i_RowOf
  have hn : (N : Int) ≤ 4294967296 := by omega
  simp [i_InRange g, hc, makeSl, hn, hp.len, he, hz]
end Go.Proofs.Ev
end
section
/- Rows of rows that are built by appending. -/
set_option linter.unusedVariables false
set_option linter.unusedSimpArgs false
namespace Go.Proofs.Ev
open Go Go.RowKit
variable {X : FuncId → Option (List AV → Hp → Option (AV × Hp))}

theorem frz_SVI {v : AV} {l : List Int} (s : SVI v l) (h : Hp) (n0 k : Nat) : frz h n0 (k + 4) v = some v := by
  rcases s with ⟨rfl, _⟩ | ⟨x, rfl⟩
  · simp [frz]
  · simp only [frz]
    rw [frzEs_ints]
    rfl

/-- Values, each a row of ints. -/
def Rows (vs : List AV) (ll : List (List Int)) : Prop := vs.length = ll.length ∧ ∀ i (h1 : i < vs.length) (h2 : i < ll.length), SVI vs[i] ll[i]
/-- A slice of rows of ints. -/
def SVV (v : AV) (ll : List (List Int)) : Prop := ∃ vs, SV v (vs.map fun r => [r]) ∧ Rows vs ll

theorem Rows.nil : Rows [] [] := ⟨rfl, fun i h => by simp at h⟩
theorem Rows.cons {v : AV} {l : List Int} {vs : List AV} {ll : List (List Int)} (h : SVI v l) (hs : Rows vs ll) : Rows (v :: vs) (l :: ll) := by
  refine ⟨by simp [hs.1], fun i h1 h2 => ?_⟩
  cases i with
  | zero => exact h
  | succ i => exact hs.2 i (by simpa using h1) (by simpa using h2)
theorem Rows.push {v : AV} {l : List Int} : ∀ {vs : List AV} {ll : List (List Int)}, Rows vs ll → SVI v l → Rows (vs ++ [v]) (ll ++ [l])
  | [], [], _, h => Rows.cons h Rows.nil
  | [], _ :: _, hs, _ => by have := hs.1; simp at this
  | _ :: _, [], hs, _ => by have := hs.1; simp at this
  | a :: vs, b :: ll, hs, h => Rows.cons (hs.2 0 (by simp) (by simp)) (Rows.push ⟨by have := hs.1; simpa using this, fun i h1 h2 => hs.2 (i + 1) (by simpa using h1) (by simpa using h2)⟩ h)

theorem frzEs_rows (h : Hp) (n0 k : Nat) : ∀ (vs : List AV) (ll : List (List Int)), Rows vs ll → frzEs h n0 (k + 6) (vs.map fun r => [r]) = some (vs.map fun r => [r])
  | [], _, _ => by simp [frzEs]
  | v :: vs, ll, hs => by
    cases ll with
    | nil => have := hs.1; simp at this
    | cons l ll =>
      have h0 : SVI v l := hs.2 0 (by simp) (by simp)
      have := frzEs_rows h n0 k vs ll ⟨by have := hs.1; simpa using this, fun i h1 h2 => hs.2 (i + 1) (by simpa using h1) (by simpa using h2)⟩
      simp only [List.map_cons, frzEs, frzL, this]
      rw [show frz h n0 (k + 4) v = some v from frz_SVI h0 h n0 k]

/-- A slice of rows under way. -/
structure OutR (h : Hp) (vs : List AV) (v : AV) (h1 : Hp) : Prop where
  lo : h1.lo = h.next
  nx : h.next ≤ h1.next
  val : (vs = [] ∧ v = .nilS) ∨ (vs = [] ∧ v = .imm true []) ∨ ∃ id, v = .own id ∧ h.next ≤ id ∧ id < h1.next ∧ h1.rows id = some ⟨25, 1, vs.map fun r => [r]⟩

theorem rows_ok {vs : List AV} (h : ∀ r ∈ vs, AV.one r = true) : rowOk 1 (vs.map fun r => [r]) = true := by
  simp [rowOk]
  exact h

theorem OutR.push {h h1 : Hp} {vs : List AV} {v : AV} (o : OutR h vs v h1) {r : AV} (hr1 : AV.one r = true) (bl : vs.length < 2 ^ 31) :
    ∃ v' h2, app (pk X).T h1 47 v (.imm true [[r]]) = some (v', h2) ∧ OutR h (vs ++ [r]) v' h2 := by
  have hm : vs.length + 1 ≤ most := by unfold most; omega
  have hm1 : 1 ≤ most := by unfold most; omega
  have hnx := o.nx
  rcases o.val with ⟨rfl, rfl⟩ | ⟨rfl, rfl⟩ | ⟨id, rfl, hid, hlt, hr⟩
  · refine ⟨_, _, by simp [app, rowOk, hm1, hr1]; exact ⟨rfl, rfl⟩, ?_⟩
    exact ⟨o.lo, by simp [addRow]; omega, .inr (.inr ⟨_, rfl, hnx, by simp [addRow], by simp [addRow]⟩)⟩
  · refine ⟨_, _, by simp [app, rowOk, hm1, hr1]; exact ⟨rfl, rfl⟩, ?_⟩
    exact ⟨o.lo, by simp [addRow]; omega, .inr (.inr ⟨_, rfl, hnx, by simp [addRow], by simp [addRow]⟩)⟩
  · have hlo : h1.lo ≤ id := by rw [o.lo]; exact hid
    refine ⟨_, _, by simp [app, rowOk, hr, hlo, hm, hr1]; exact ⟨rfl, rfl⟩, ?_⟩
    exact ⟨o.lo, by simp; omega, .inr (.inr ⟨_, rfl, hnx, by simp, by simp⟩)⟩

theorem OutR.frz {h h1 : Hp} {vs : List AV} {v : AV} (o : OutR h vs v h1) {ll : List (List Int)} (hs : Rows vs ll) : ∃ v', Go.Proofs.Ev.frz h1 h.next 40 v = some v' ∧ SVV v' ll := by
  rcases o.val with ⟨rfl, rfl⟩ | ⟨rfl, rfl⟩ | ⟨id, rfl, hid, hlt, hr⟩
  · exact ⟨.nilS, by simp, [], .inl ⟨rfl, rfl⟩, hs⟩
  · exact ⟨.imm true [], by simp, [], .inr ⟨true, rfl⟩, hs⟩
  · refine ⟨.imm false (vs.map fun r => [r]), ?_, vs, .inr ⟨false, rfl⟩, hs⟩
    show Go.Proofs.Ev.frz h1 h.next (39 + 1) _ = _
    simp only [Go.Proofs.Ev.frz, hid, if_true, hr]
    rw [show (39 : Nat) = 33 + 6 by rfl, frzEs_rows h1 h.next 33 vs ll hs]
    rfl
end Go.Proofs.Ev
end
section
/- The functions: a matrix of probes. -/
set_option linter.unusedVariables false
set_option linter.unusedSimpArgs false
namespace Go.Proofs.Ev
open Go Go.RowKit
variable {X : FuncId → Option (List AV → Hp → Option (AV × Hp))}

def matrixOf (ps : List Prb) (n : Int) : List (List Int) := ps.map fun p => rowOf p.path n

theorem s_MatrixOf (g : Good X) {v : AV} {ps : List Prb} (hp : SV v (ps.map prc)) (ho : PrOk ps) (bp : ps.length ≤ 2 ^ 30) (n : Int) (h : Hp) :
    ∃ v', Pc (pk X) 88 [v, I n] h = some (v', h) ∧ SVV v' (matrixOf ps n) := by
  have hlen := pr_len (X := X) hp
  obtain ⟨e, s', h', he, hq⟩ := for_rule (b := evC (pk X).T (Pc (pk X)) L0_s_MatrixOf) ps.length
    (fun i s h1 => i ≤ ps.length ∧ ∃ out a vs, s = [(0, v), (1, I n), (4, .nilS), (5, out), (6, I i), (11, a)] ∧ OutR h vs out h1 ∧ Rows vs (matrixOf (ps.take i) n))
    (fun e s h1 => e = .exit 0 ∧ ∃ out i a vs, s = [(0, v), (1, I n), (4, .nilS), (5, out), (6, i), (11, a)] ∧ OutR h vs out h1 ∧ Rows vs (matrixOf ps n))
    (s := [(0, v), (1, I n), (4, .nilS), (5, .imm true []), (6, I 0), (11, .lit undef)]) (h := { h with lo := h.next })
    ⟨by omega, _, _, [], rfl, ⟨rfl, Nat.le_refl _, .inr (.inl ⟨rfl, rfl⟩)⟩, Rows.nil⟩ (fun i s h1 hI => hI.1) (by
      rintro i s h1 ⟨hi, out, a, vs, rfl, hout, hrows⟩
      unfold L0_s_MatrixOf
      by_cases hlt : i < ps.length
      · have hw2 := wadd (x := i) (y := 1) (by omega) (by omega)
        have hat := pr_at (X := X) hp hlt
        have hok := ho ps[i] (List.getElem_mem hlt)
        obtain ⟨vr, hR, hvr⟩ := s_RowOf g hok.1 hok.2 n h1
        have hl : vs.length = i := by have := hrows.1; simp [matrixOf] at this; omega
        obtain ⟨v', h2, ha, ho'⟩ := hout.push (X := X) hvr.one (by omega)
        have hc := hvr.cells
        have h1' := hvr.one
        simp [hlen, hlt, hat, hp.get, hR, buildSlice, lits, hc, h1', ha, hw2]
        refine ⟨by omega, _, ho', ?_⟩
        have : matrixOf (ps.take (i + 1)) n = matrixOf (ps.take i) n ++ [rowOf ps[i].path n] := by
          rw [← List.take_append_getElem hlt]
          simp only [matrixOf, List.map_append, List.map_cons, List.map_nil]
        rw [this]
        exact hrows.push hvr
      · have : i = ps.length := by omega
        subst this
        rw [List.take_length] at hrows
        simp [hlen]
        exact ⟨_, hout, hrows⟩)
  obtain ⟨rfl, out, i, a, vs, rfl, hout, hrows⟩ := hq
  obtain ⟨v', hz, hv⟩ := hout.frz hrows
  refine ⟨v', r_s_MatrixOf g ?_, hv⟩
  unfold cc_s_MatrixOf
  simp [buildSlice, lits, he, hz]

/-- A new row beside it. -/
theorem OutR.beside {h h1 : Hp} {vs : List AV} {v : AV} (o : OutR h vs v h1) (r : Option Row) : OutR h vs v { rows := updR h1.rows h1.next r, next := h1.next + 1, lo := h1.lo } := by
  refine ⟨o.lo, Nat.le_succ_of_le o.nx, ?_⟩
  rcases o.val with hv | hv | ⟨id, hv, hid, hlt, hr⟩
  · exact .inl hv
  · exact .inr (.inl hv)
  · exact .inr (.inr ⟨id, hv, hid, Nat.lt_succ_of_lt hlt, by simp [Nat.ne_of_lt hlt, hr]⟩)

theorem i_MatrixOf (g : Good X) {v : AV} {ps : List Prb} (hp : SV v (ps.map prc)) (ho : PrOk ps) (bp : ps.length ≤ 2 ^ 30) (n : Int) (h : Hp) :
    ∃ v', Pc (pk X) 90 [v, I n] h = some (v', h) ∧ SVV v' (matrixOf ps n) := by
  have hlen := pr_len (X := X) hp
  obtain ⟨e, s', h', he, hq⟩ := for_rule (b := evC (pk X).T (Pc (pk X)) L0_i_MatrixOf) ps.length
    (fun i s h1 => i ≤ ps.length ∧ ∃ out a b vs, s = [(0, v), (1, I n), (4, .nilS), (5, out), (7, a), (8, v), (9, I ps.length), (10, I i), (11, b)] ∧ OutR h vs out h1 ∧ Rows vs (matrixOf (ps.take i) n))
    (fun e s h1 => e = .exit 0 ∧ ∃ out i a b vs, s = [(0, v), (1, I n), (4, .nilS), (5, out), (7, a), (8, v), (9, I ps.length), (10, i), (11, b)] ∧ OutR h vs out h1 ∧ Rows vs (matrixOf ps n))
    (s := [(0, v), (1, I n), (4, .nilS), (5, .nilS), (7, .lit undef), (8, v), (9, I ps.length), (10, I 0), (11, .lit undef)]) (h := { h with lo := h.next })
    ⟨by omega, _, _, _, [], rfl, ⟨rfl, Nat.le_refl _, .inl ⟨rfl, rfl⟩⟩, Rows.nil⟩ (fun i s h1 hI => hI.1) (by
      rintro i s h1 ⟨hi, out, a, b, vs, rfl, hout, hrows⟩
      unfold L0_i_MatrixOf
      by_cases hlt : i < ps.length
      · have hw2 := wadd (x := i) (y := 1) (by omega) (by omega)
        have hat := pr_at (X := X) hp hlt
        have hok := ho ps[i] (List.getElem_mem hlt)
        have hlo2 : h1.lo ≤ h1.next := by have := hout.lo; have := hout.nx; omega
        have hpo := hok.1.one
        have hout2 := hout.beside (some ⟨91, 3, [prc ps[i]]⟩)
        obtain ⟨vr, hR, hvr⟩ := i_RowOf g hok.1 hok.2 n { rows := updR h1.rows h1.next (some ⟨91, 3, [prc ps[i]]⟩), next := h1.next + 1, lo := h1.lo }
        have hl : vs.length = i := by have := hrows.1; simp [matrixOf] at this; omega
        obtain ⟨v', h2, ha, ho'⟩ := hout2.push (X := X) hvr.one (by omega)
        have hc := hvr.cells
        have h1' := hvr.one
        simp [hlt, hat, hp.get, alloc, stor, addRow, hlo2, hpo, hR, buildSlice, lits, hc, h1', ha, hw2]
        refine ⟨by omega, _, ho', ?_⟩
        have : matrixOf (ps.take (i + 1)) n = matrixOf (ps.take i) n ++ [rowOf ps[i].path n] := by
          rw [← List.take_append_getElem hlt]
          simp only [matrixOf, List.map_append, List.map_cons, List.map_nil]
        rw [this]
        exact hrows.push hvr
      · have : i = ps.length := by omega
        subst this
        rw [List.take_length] at hrows
        simp
        exact ⟨_, hout, hrows⟩)
  obtain ⟨rfl, out, i, a, b, vs, rfl, hout, hrows⟩ := hq
  obtain ⟨v', hz, hv⟩ := hout.frz hrows
  refine ⟨v', r_i_MatrixOf g ?_, hv⟩
  unfold cc_i_MatrixOf
  simp [hlen, he, hz]
end Go.Proofs.Ev
end
section
/- The functions: does a set explain the verdicts? -/
set_option linter.unusedVariables false
set_option linter.unusedSimpArgs false
namespace Go.Proofs.Ev
open Go Go.RowKit
variable {X : FuncId → Option (List AV → Hp → Option (AV × Hp))}

def SVB (v : AV) (l : List Bool) : Prop := SV v (l.map fun b => [Bo b])
def explF (links : List Int) : List (List Int) → List Bool → Bool
  | r :: m, b :: bs => !(!(failsWith r links == b)) && explF links m bs
  | _, _ => true
def explains (m : List (List Int)) (bs : List Bool) (links : List Int) : Bool := !((bs.length : Int) != m.length) && explF links m bs

theorem s_Explains (g : Good X) {vm vb vl : AV} {m : List (List Int)} {bs : List Bool} {links : List Int} (hm : SVV vm m) (hb : SVB vb bs) (hl : SVI vl links)
    (b1 : m.length ≤ 2 ^ 40) (b2 : ∀ r ∈ m, r.length ≤ 2 ^ 40) (b3 : links.length ≤ 2 ^ 40) (h : Hp) :
    Pc (pk X) 47 [vm, vb, vl] h = some (Bo (explains m bs links), h) := by
  refine r_s_Explains g ?_
  unfold cc_s_Explains
  obtain ⟨vs, hs, hr⟩ := hm
  have hl1 : ∀ h, lenA (pk X).T h 47 vm = some (I m.length) := fun h => by
    have := hs.len (X := X) 47 h (by simp [slT])
    rw [List.length_map, hr.1] at this
    exact this
  have hl2 : ∀ h, lenA (pk X).T h 57 vb = some (I bs.length) := fun h => by
    have := SV.len (X := X) hb 57 h (by simp [slT])
    simpa using this
  cases hc : ((bs.length : Int) != m.length)
  · have hle : bs.length = m.length := by simp at hc; omega
    simp [hl1, hl2, hc, explains]
    obtain ⟨e, s', h', he, hq⟩ := for_rule (b := evC (pk X).T (Pc (pk X)) L0_s_Explains) m.length
      (fun i s h1 => i ≤ m.length ∧ h1 = { h with lo := h.next } ∧ (∃ a b, s = [(0, vm), (1, vb), (2, vl), (6, Bo false), (7, I i), (12, Bo false), (16, a), (29, b)]) ∧ explF links (m.drop i) (bs.drop i) = explF links m bs)
      (fun e s h1 => h1 = { h with lo := h.next } ∧ ∃ i a b, s = [(0, vm), (1, vb), (2, vl), (6, Bo false), (7, i), (12, Bo false), (16, a), (29, b)] ∧ ((e = .ret ∧ explF links m bs = false) ∨ (e = .exit 0 ∧ explF links m bs = true)))
      (s := [(0, vm), (1, vb), (2, vl), (6, Bo false), (7, I 0), (12, Bo false), (16, .lit undef), (29, .lit undef)]) (h := { h with lo := h.next }) (by simp) (fun i s h1 hI => hI.1) (by
        rintro i s h1 ⟨hi, rfl, ⟨a, b, rfl⟩, hf⟩
        unfold L0_s_Explains
        by_cases hlt : i < m.length
        · have hlt2 : i < bs.length := by omega
          have hlt3 : i < vs.length := by have := hr.1; omega
          have hw2 := wadd (x := i) (y := 1) (by omega) (by omega)
          rw [List.drop_eq_getElem_cons hlt, List.drop_eq_getElem_cons hlt2] at hf
          simp only [explF] at hf
          have hat := hs.at_ (X := X) 47 (by simp) t_25 (k := i) (by simpa using hlt3) (by simp)
          have hat2 := SV.at_ (X := X) hb 57 (by simp) t_4 (k := i) (by simpa using hlt2) (by simp)
          have hg2 := SV.get hb
          have hF := fun h => s_FailsWith g (hr.2 i hlt3 hlt) hl h b3 (b2 m[i] (List.getElem_mem hlt))
          cases hk : (failsWith m[i] links == bs[i]) <;> simp only [hk, Bool.not_false, Bool.not_true, Bool.false_and, Bool.true_and] at hf
          · simp [hl1, hat, hat2, hs.get, hg2, hlt, hlt2, hlt3, hF, hk, ← hf]
          · simp [hl1, hat, hat2, hs.get, hg2, hlt, hlt2, hlt3, hF, hk, hw2, hf]
            omega
        · have : i = m.length := by omega
          subst this
          rw [List.drop_length] at hf
          simp only [explF] at hf
          simp [hl1, ← hf])
    rw [he]
    obtain ⟨rfl, i, a, b, rfl, ⟨rfl, hk⟩ | ⟨rfl, hk⟩⟩ := hq <;> simp [hk]
  · simp [hl1, hl2, hc, explains]

theorem i_Explains (g : Good X) {vm vb vl : AV} {m : List (List Int)} {bs : List Bool} {links : List Int} (hm : SVV vm m) (hb : SVB vb bs) (hl : SVI vl links)
    (b1 : m.length ≤ 2 ^ 40) (b2 : ∀ r ∈ m, r.length ≤ 2 ^ 40) (b3 : links.length ≤ 2 ^ 40) (h : Hp) :
    Pc (pk X) 49 [vm, vb, vl] h = some (Bo (explains m bs links), h) := by
  refine r_i_Explains g ?_
  unfold cc_i_Explains
  obtain ⟨vs, hs, hr⟩ := hm
  have hl1 : ∀ h, lenA (pk X).T h 47 vm = some (I m.length) := fun h => by
    have := hs.len (X := X) 47 h (by simp [slT])
    rw [List.length_map, hr.1] at this
    exact this
  have hl2 : ∀ h, lenA (pk X).T h 57 vb = some (I bs.length) := fun h => by
    have := SV.len (X := X) hb 57 h (by simp [slT])
    simpa using this
  cases hc : ((bs.length : Int) != m.length)
  · have hle : bs.length = m.length := by simp at hc; omega
    simp [hl1, hl2, hc, explains]
    obtain ⟨e, s', h', he, hq⟩ := for_rule (b := evC (pk X).T (Pc (pk X)) L0_i_Explains) m.length
      (fun i s h1 => i ≤ m.length ∧ h1 = { h with lo := h.next } ∧ (∃ a b c d, s = [(0, vm), (1, vb), (2, vl), (6, Bo false), (7, a), (8, b), (13, Bo false), (14, vm), (15, I m.length), (16, I i), (17, c), (28, d)]) ∧ explF links (m.drop i) (bs.drop i) = explF links m bs)
      (fun e s h1 => h1 = { h with lo := h.next } ∧ ∃ i a b c d, s = [(0, vm), (1, vb), (2, vl), (6, Bo false), (7, a), (8, b), (13, Bo false), (14, vm), (15, I m.length), (16, i), (17, c), (28, d)] ∧ ((e = .ret ∧ explF links m bs = false) ∨ (e = .exit 0 ∧ explF links m bs = true)))
      (s := [(0, vm), (1, vb), (2, vl), (6, Bo false), (7, .lit undef), (8, .lit undef), (13, Bo false), (14, vm), (15, I m.length), (16, I 0), (17, .lit undef), (28, .lit undef)]) (h := { h with lo := h.next }) (by simp) (fun i s h1 hI => hI.1) (by
        rintro i s h1 ⟨hi, rfl, ⟨a, b, c, d, rfl⟩, hf⟩
        unfold L0_i_Explains
        by_cases hlt : i < m.length
        · have hlt2 : i < bs.length := by omega
          have hlt3 : i < vs.length := by have := hr.1; omega
          have hw2 := wadd (x := i) (y := 1) (by omega) (by omega)
          rw [List.drop_eq_getElem_cons hlt, List.drop_eq_getElem_cons hlt2] at hf
          simp only [explF] at hf
          have hat := hs.at_ (X := X) 47 (by simp) t_25 (k := i) (by simpa using hlt3) (by simp)
          have hat2 := SV.at_ (X := X) hb 57 (by simp) t_4 (k := i) (by simpa using hlt2) (by simp)
          have hg2 := SV.get hb
          have hF := fun h => i_FailsWith g (hr.2 i hlt3 hlt) hl h b3 (b2 m[i] (List.getElem_mem hlt))
          cases hk : (failsWith m[i] links == bs[i]) <;> simp only [hk, Bool.not_false, Bool.not_true, Bool.false_and, Bool.true_and] at hf
          · simp [hl1, hat, hat2, hs.get, hg2, hlt, hlt2, hlt3, hF, hk, ← hf]
          · simp [hl1, hat, hat2, hs.get, hg2, hlt, hlt2, hlt3, hF, hk, hw2, hf]
            omega
        · have : i = m.length := by omega
          subst this
          rw [List.drop_length] at hf
          simp only [explF] at hf
          simp [hl1, ← hf])
    rw [he]
    obtain ⟨rfl, i, a, b, c, d, rfl, ⟨rfl, hk⟩ | ⟨rfl, hk⟩⟩ := hq <;> simp [hk]
  · simp [hl1, hl2, hc, explains]
end Go.Proofs.Ev
end
section
/- Slices that are built by appending, of any kind; several at a time. -/
set_option linter.unusedVariables false
set_option linter.unusedSimpArgs false
namespace Go.Proofs.Ev
open Go Go.RowKit
variable {X : FuncId → Option (List AV → Hp → Option (AV × Hp))}

/-- A slice under way: nil, empty, or the run's own. -/
structure Out (n0 : Nat) (ty : TypeId) (sz : Nat) (es : List (List AV)) (v : AV) (h1 : Hp) : Prop where
  lo : h1.lo ≤ n0
  nx : n0 ≤ h1.next
  val : (es = [] ∧ v = .nilS) ∨ (es = [] ∧ v = .imm true []) ∨ ∃ id, v = .own id ∧ n0 ≤ id ∧ id < h1.next ∧ h1.rows id = some ⟨ty, sz, es⟩

/-- What a step leaves alone: all rows but that of v. -/
structure Past (h1 h2 : Hp) (v : AV) : Prop where
  lo : h2.lo = h1.lo
  nx : h1.next ≤ h2.next
  rows : ∀ id, id < h1.next → v ≠ .own id → h2.rows id = h1.rows id

def Apart (v w : AV) : Prop := ∀ id, v = .own id → w ≠ .own id
theorem Apart.symm {v w : AV} (a : Apart v w) : Apart w v := fun id h1 h2 => a id h2 h1
theorem Apart.nil (w : AV) : Apart .nilS w := fun id h => by cases h
theorem Apart.imm (w : AV) (b : Bool) (es : List (List AV)) : Apart (.imm b es) w := fun id h => by cases h

theorem Past.rfl' (h1 : Hp) (v : AV) : Past h1 h1 v := ⟨rfl, Nat.le_refl _, fun _ _ _ => rfl⟩
theorem Past.trans {h1 h2 h3 : Hp} {v v' : AV} (a : Past h1 h2 v) (b : Past h2 h3 v') (hv : ∀ id, v' = .own id → h1.next ≤ id) : Past h1 h3 v :=
  ⟨b.lo.trans a.lo, Nat.le_trans a.nx b.nx, fun id hid hne => (b.rows id (Nat.lt_of_lt_of_le hid a.nx) (fun e => by have := hv id e; omega)).trans (a.rows id hid hne)⟩
theorem Past.add (h1 : Hp) (r : Option Row) (v : AV) : Past h1 { rows := updR h1.rows h1.next r, next := h1.next + 1, lo := h1.lo } v :=
  ⟨rfl, Nat.le_succ _, fun id hid _ => by simp [Nat.ne_of_lt hid]⟩

theorem Out.keep {n0 : Nat} {ty : TypeId} {sz : Nat} {es : List (List AV)} {w v : AV} {h1 h2 : Hp} (o : Out n0 ty sz es w h1) (p : Past h1 h2 v) (d : Apart w v) : Out n0 ty sz es w h2 := by
  refine ⟨by rw [p.lo]; exact o.lo, Nat.le_trans o.nx p.nx, ?_⟩
  rcases o.val with hv | hv | ⟨id, hv, hid, hlt, hr⟩
  · exact .inl hv
  · exact .inr (.inl hv)
  · exact .inr (.inr ⟨id, hv, hid, Nat.lt_of_lt_of_le hlt p.nx, by rw [p.rows id hlt (d id hv)]; exact hr⟩)

theorem Out.beside {n0 : Nat} {ty : TypeId} {sz : Nat} {es : List (List AV)} {w : AV} {h1 : Hp} (o : Out n0 ty sz es w h1) (r : Option Row) : Out n0 ty sz es w { rows := updR h1.rows h1.next r, next := h1.next + 1, lo := h1.lo } :=
  o.keep (Past.add h1 r .nilS) (fun id _ h => by cases h)

theorem Out.lt {n0 : Nat} {ty : TypeId} {sz : Nat} {es : List (List AV)} {w : AV} {h1 : Hp} (o : Out n0 ty sz es w h1) {id : Nat} (h : w = .own id) : id < h1.next := by
  rcases o.val with ⟨_, rfl⟩ | ⟨_, rfl⟩ | ⟨i, rfl, hid, hlt, hr⟩
  · cases h
  · cases h
  · cases h; exact hlt
theorem Out.ge {n0 : Nat} {ty : TypeId} {sz : Nat} {es : List (List AV)} {w : AV} {h1 : Hp} (o : Out n0 ty sz es w h1) {id : Nat} (h : w = .own id) : n0 ≤ id := by
  rcases o.val with ⟨_, rfl⟩ | ⟨_, rfl⟩ | ⟨i, rfl, hid, hlt, hr⟩
  · cases h
  · cases h
  · cases h; exact hid
theorem Out.apart {n0 : Nat} {ty : TypeId} {sz : Nat} {es : List (List AV)} {w v : AV} {h1 : Hp} (o : Out n0 ty sz es w h1) (hv : ∃ id, v = .own id ∧ h1.next ≤ id) : Apart v w := by
  obtain ⟨i, rfl, hi⟩ := hv
  intro id h1 h2
  cases h1
  have := o.lt h2
  omega

theorem Out.push {n0 : Nat} {ty : TypeId} {es : List (List AV)} {v : AV} {h1 : Hp} {te : TE} (o : Out n0 ty te.sz es v h1) (t : TypeId) (ht : ((pk X).T t).bind (·.sl) = some ty) (hte : (pk X).T ty = some te) (hsz : 0 < te.sz)
    {x : Bool} {e : List AV} (he : rowOk te.sz [e] = true) (bl : es.length < 2 ^ 31) :
    ∃ v' h2, app (pk X).T h1 t v (.imm x [e]) = some (v', h2) ∧ Out n0 ty te.sz (es ++ [e]) v' h2 ∧ Past h1 h2 v ∧ ∃ id, v' = .own id ∧ h1.next ≤ id := by
  have hm : es.length + 1 ≤ most := by unfold most; omega
  have hm1 : 1 ≤ most := by unfold most; omega
  have hnx := o.nx
  rcases o.val with ⟨rfl, rfl⟩ | ⟨rfl, rfl⟩ | ⟨id, rfl, hid, hlt, hr⟩
  · refine ⟨.own h1.next, addRow h1 ty te.sz [e], by simp [app, ht, hte, hsz, he, hm1], ?_, Past.add _ _ _, _, rfl, Nat.le_refl _⟩
    exact ⟨o.lo, by simp [addRow]; omega, .inr (.inr ⟨_, rfl, hnx, by simp [addRow], by simp [addRow]⟩)⟩
  · have h0 : rowOk te.sz [] = true := rfl
    refine ⟨.own h1.next, addRow h1 ty te.sz [e], by simp [app, ht, hte, hsz, he, hm1, h0], ?_, Past.add _ _ _, _, rfl, Nat.le_refl _⟩
    exact ⟨o.lo, by simp [addRow]; omega, .inr (.inr ⟨_, rfl, hnx, by simp [addRow], by simp [addRow]⟩)⟩
  · have hlo : h1.lo ≤ id := Nat.le_trans o.lo hid
    refine ⟨.own h1.next, { h1 with rows := updR (updR h1.rows id none) h1.next (some ⟨ty, te.sz, es ++ [e]⟩), next := h1.next + 1 }, by simp [app, ht, hte, hsz, he, hr, hlo, hm], ?_, ⟨rfl, Nat.le_succ _, fun j hj hne => ?_⟩, _, rfl, Nat.le_refl _⟩
    · exact ⟨o.lo, Nat.le_succ_of_le hnx, .inr (.inr ⟨_, rfl, hnx, Nat.lt_succ_self _, by simp⟩)⟩
    · have h1 : j ≠ id := fun e => hne (by rw [e])
      simp [Nat.ne_of_lt hj, h1]

/-- Appending a whole slice. -/
theorem Out.append {n0 : Nat} {ty : TypeId} {es : List (List AV)} {v : AV} {h1 : Hp} {te : TE} (o : Out n0 ty te.sz es v h1) (t : TypeId) (ht : ((pk X).T t).bind (·.sl) = some ty) (hte : (pk X).T ty = some te) (hsz : 0 < te.sz)
    {w : AV} {ys : List (List AV)} (hw : h1.get w = some ys) (he : rowOk te.sz ys = true) (bl : es.length < 2 ^ 31) (bl2 : ys.length < 2 ^ 31) :
    ∃ v' h2, app (pk X).T h1 t v w = some (v', h2) ∧ Out n0 ty te.sz (es ++ ys) v' h2 ∧ Past h1 h2 v ∧ (v' = v ∨ ∃ id, v' = .own id ∧ h1.next ≤ id) := by
  have hm : es.length + ys.length ≤ most := by unfold most; omega
  have hm1 : ys.length ≤ most := by unfold most; omega
  have hnx := o.nx
  by_cases hy : ys = []
  · subst hy
    rcases o.val with ⟨rfl, rfl⟩ | ⟨rfl, rfl⟩ | ⟨id, rfl, hid, hlt, hr⟩
    · exact ⟨.nilS, h1, by simp [app, ht, hte, hsz, hw, he], ⟨o.lo, o.nx, .inl ⟨rfl, rfl⟩⟩, Past.rfl' _ _, .inl rfl⟩
    · exact ⟨.imm true [], h1, by simp [app, ht, hte, hsz, hw, he], ⟨o.lo, o.nx, .inr (.inl ⟨rfl, rfl⟩)⟩, Past.rfl' _ _, .inl rfl⟩
    · have hlo : h1.lo ≤ id := Nat.le_trans o.lo hid
      refine ⟨.own h1.next, { h1 with rows := updR (updR h1.rows id none) h1.next (some ⟨ty, te.sz, es⟩), next := h1.next + 1 }, by simp [app, ht, hte, hsz, hw, he, hr, hlo]; simpa using hm, ?_, ⟨rfl, Nat.le_succ _, fun j hj hne => ?_⟩, .inr ⟨_, rfl, Nat.le_refl _⟩⟩
      · exact ⟨o.lo, Nat.le_succ_of_le hnx, .inr (.inr ⟨_, rfl, hnx, Nat.lt_succ_self _, by simp⟩)⟩
      · have h1 : j ≠ id := fun e => hne (by rw [e])
        simp [Nat.ne_of_lt hj, h1]
  rcases o.val with ⟨rfl, rfl⟩ | ⟨rfl, rfl⟩ | ⟨id, rfl, hid, hlt, hr⟩
  · refine ⟨.own h1.next, addRow h1 ty te.sz ys, by simp [app, ht, hte, hsz, hw, he, hm1, hy], ?_, Past.add _ _ _, .inr ⟨_, rfl, Nat.le_refl _⟩⟩
    exact ⟨o.lo, Nat.le_succ_of_le hnx, .inr (.inr ⟨_, rfl, hnx, Nat.lt_succ_self _, by simp [addRow]⟩)⟩
  · have h0 : rowOk te.sz [] = true := rfl
    refine ⟨.own h1.next, addRow h1 ty te.sz ys, by simp [app, ht, hte, hsz, hw, he, hm1, hy, h0], ?_, Past.add _ _ _, .inr ⟨_, rfl, Nat.le_refl _⟩⟩
    exact ⟨o.lo, Nat.le_succ_of_le hnx, .inr (.inr ⟨_, rfl, hnx, Nat.lt_succ_self _, by simp [addRow]⟩)⟩
  · have hlo : h1.lo ≤ id := Nat.le_trans o.lo hid
    refine ⟨.own h1.next, { h1 with rows := updR (updR h1.rows id none) h1.next (some ⟨ty, te.sz, es ++ ys⟩), next := h1.next + 1 }, by simp [app, ht, hte, hsz, hw, he, hr, hlo, hm], ?_, ⟨rfl, Nat.le_succ _, fun j hj hne => ?_⟩, .inr ⟨_, rfl, Nat.le_refl _⟩⟩
    · exact ⟨o.lo, Nat.le_succ_of_le hnx, .inr (.inr ⟨_, rfl, hnx, Nat.lt_succ_self _, by simp⟩)⟩
    · have h1 : j ≠ id := fun e => hne (by rw [e])
      simp [Nat.ne_of_lt hj, h1]

theorem frz_lits (h : Hp) (n0 k : Nat) : ∀ (c : List AV), (∀ x ∈ c, ∃ v, x = .lit v) → frzL h n0 (k + 2) c = some c
  | [], _ => by simp [frzL]
  | x :: c, hc => by
    obtain ⟨v, rfl⟩ := hc x (List.mem_cons_self ..)
    have := frz_lits h n0 k c (fun y hy => hc y (List.mem_cons_of_mem _ hy))
    simp [frzL, frz, this]
theorem frzEs_lits (h : Hp) (n0 k : Nat) : ∀ (es : List (List AV)), (∀ c ∈ es, ∀ x ∈ c, ∃ v, x = .lit v) → frzEs h n0 (k + 3) es = some es
  | [], _ => by simp [frzEs]
  | c :: es, hc => by
    have h1 := frz_lits h n0 k c (hc c (List.mem_cons_self ..))
    have h2 := frzEs_lits h n0 k es (fun y hy => hc y (List.mem_cons_of_mem _ hy))
    simp [frzEs, h1, h2]

theorem Out.frz {n0 : Nat} {ty : TypeId} {sz : Nat} {es : List (List AV)} {v : AV} {h1 : Hp} (o : Out n0 ty sz es v h1) {n k : Nat} (hn : n ≤ n0) (he : frzEs h1 n (k + 1) es = some es) :
    ∃ v', Go.Proofs.Ev.frz h1 n (k + 2) v = some v' ∧ SV v' es := by
  rcases o.val with ⟨rfl, rfl⟩ | ⟨rfl, rfl⟩ | ⟨id, rfl, hid, hlt, hr⟩
  · exact ⟨.nilS, by simp [Go.Proofs.Ev.frz], .inl ⟨rfl, rfl⟩⟩
  · exact ⟨.imm true [], by simp [Go.Proofs.Ev.frz, frzEs], .inr ⟨true, rfl⟩⟩
  · exact ⟨.imm false es, by simp [Go.Proofs.Ev.frz, Nat.le_trans hn hid, hr, he], .inr ⟨false, rfl⟩⟩

theorem Rows.ones {vs : List AV} {ll : List (List Int)} (r : Rows vs ll) : ∀ v ∈ vs, AV.one v = true := by
  intro v hv
  obtain ⟨i, hi, rfl⟩ := List.mem_iff_getElem.1 hv
  exact (r.2 i hi (by rw [← r.1]; exact hi)).one
theorem SVV.len {v : AV} {ll : List (List Int)} (s : SVV v ll) (h : Hp) : lenA (pk X).T h 47 v = some (I ll.length) := by
  obtain ⟨vs, hs, hv⟩ := s
  have := hs.len (X := X) 47 h (by simp [slT])
  rw [List.length_map, hv.1] at this
  exact this
theorem SVV.one {v : AV} {ll : List (List Int)} (s : SVV v ll) : AV.one v = true := by
  obtain ⟨vs, hs, hv⟩ := s
  exact hs.one
theorem SVV.cells {v : AV} {ll : List (List Int)} (s : SVV v ll) : AV.cells v = [v] := by
  obtain ⟨vs, hs, hv⟩ := s
  exact hs.cells
theorem SVB.len {v : AV} {bs : List Bool} (s : SVB v bs) (h : Hp) : lenA (pk X).T h 57 v = some (I bs.length) := by
  have := SV.len (X := X) s 57 h (by simp [slT])
  simpa using this
theorem frz_SVV {v : AV} {ll : List (List Int)} (s : SVV v ll) (h : Hp) (n k : Nat) : frz h n (k + 7) v = some v := by
  obtain ⟨vs, hs, hr⟩ := s
  rcases hs with ⟨rfl, _⟩ | ⟨x, rfl⟩
  · simp [frz]
  · simp only [frz]
    rw [frzEs_rows h n k vs _ hr]
    rfl
theorem frz_SVB {v : AV} {l : List Bool} (s : SVB v l) (h : Hp) (n k : Nat) : frz h n (k + 4) v = some v := by
  rcases s with ⟨rfl, _⟩ | ⟨x, rfl⟩
  · simp [frz]
  · simp only [frz]
    rw [frzEs_lits h n k _ (by
      intro c hc x hx
      obtain ⟨b, _, rfl⟩ := List.mem_map.1 hc
      exact ⟨_, List.mem_singleton.1 hx⟩)]
    rfl
end Go.Proofs.Ev
end
section
/- The functions: the verdicts now. -/
set_option maxRecDepth 100000
set_option maxHeartbeats 4000000
set_option linter.unusedVariables false
set_option linter.unusedSimpArgs false
namespace Go.Proofs.Ev
open Go Go.RowKit
variable {X : FuncId → Option (List AV → Hp → Option (AV × Hp))}

def vrow (w : Wd) (i : Int) : List Int := match w.seen[i.toNat]? with
  | some x => match w.probes[x.p.toNat]? with
    | some p => rowOf p.path w.links.length
    | none => []
  | none => []
def vbad (w : Wd) (i : Int) : Bool := match w.seen[i.toNat]? with
  | some x => x.bad
  | none => false
def nowL (w : Wd) : List Int := seenAt w.seen w.now w.seen.length
def verdM (w : Wd) : List (List Int) := if isWorld w = true then (nowL w).map (vrow w) else []
def verdB (w : Wd) : List Bool := if isWorld w = true then (nowL w).map (vbad w) else []

theorem seenF_all (probes now : Int) : ∀ (l : List Sn) (last : Int), seenF probes now last l = true → ∀ x ∈ l, 0 ≤ x.p ∧ x.p < probes
  | [], _, _, x, hx => by cases hx
  | y :: l, last, h, x, hx => by
    simp only [seenF, Bool.and_eq_true, decide_eq_true_eq] at h
    rcases List.mem_cons.1 hx with rfl | hx
    · exact h.1.1.1.1.1
    · exact seenF_all probes now l y.t h.2 x hx
theorem isWorld_seen {w : Wd} (h : isWorld w = true) : ∀ x ∈ w.seen, 0 ≤ x.p ∧ x.p < w.probes.length := by
  unfold isWorld at h
  simp only [Bool.and_eq_true] at h
  have := h.1.2
  unfold areSeen at this
  simp only [Bool.and_eq_true] at this
  exact seenF_all _ _ _ _ this.2
theorem isWorld_net {w : Wd} (h : isWorld w = true) : 1 ≤ w.links.length ∧ w.links.length ≤ 6 := by
  unfold isWorld at h
  simp only [Bool.and_eq_true] at h
  have h1 := h.1.1.1.1.1.1.1.1.1.1.1.1
  unfold isNet at h1
  simp only [Bool.and_eq_true, decide_eq_true_eq] at h1
  omega
theorem nowL_mem {w : Wd} {i : Int} (h : i ∈ nowL w) : 0 ≤ i ∧ i.toNat < w.seen.length := by
  unfold nowL seenAt at h
  obtain ⟨k, hk, rfl⟩ := List.mem_map.1 h
  have := List.mem_range.1 (List.mem_filter.1 hk).1
  omega

theorem mt_succ {α β : Type} (f : α → β) {l : List α} {i : Nat} (hi : i < l.length) : List.take (i + 1) (List.map f l) = List.map f (List.take i l) ++ [f l[i]] := by
  rw [← List.map_take, List.take_succ_eq_append_getElem hi, List.map_append]
  rfl
theorem pr_ati {v : AV} {ps : List Prb} (hs : SV v (ps.map prc)) {k : Int} (h0 : 0 ≤ k) (hk : k < ps.length) (h : Hp) : idxAddr (pk X).T h 37 v (I k) = some (.elem v k.toNat 0) := by
  obtain ⟨n, rfl⟩ := Int.eq_ofNat_of_zero_le h0
  exact pr_at hs (by omega) h

theorem i_VerdictsNow (g : Good X) {w : Wd} {v : Wv} (ok : WOk w v) (bs : w.seen.length ≤ 2 ^ 30) (h : Hp) :
    ∃ v1 v2, Pc (pk X) 35 [.agg (wcs w v)] h = some (.tup [v1, v2], h) ∧ SVV v1 (verdM w) ∧ SVB v2 (verdB w) := by
  have o1 := ok.l.one; have o2 := ok.d.one; have o3 := ok.dn.one; have o4 := ok.p.one; have o5 := ok.o.one; have o6 := ok.li.one; have o7 := ok.s.one
  have l1 := lk_len (X := X) ok.l
  have f1 := i_IsWorld g ok
  cases hw : isWorld w <;> rw [hw] at f1
  · refine ⟨.nilS, .nilS, r_i_VerdictsNow g ?_, by simp only [verdM, hw]; exact ⟨[], .inl ⟨rfl, rfl⟩, Rows.nil⟩, by simp only [verdB, hw]; exact .inl ⟨rfl, rfl⟩⟩
    unfold cc_i_VerdictsNow
    simp [box, addRow, o1, o2, o3, o4, o5, o6, o7, f1, frz, frzL]
  have hseen := isWorld_seen hw
  have hM : verdM w = (nowL w).map (vrow w) := by simp only [verdM, hw, if_true]
  have hB : verdB w = (nowL w).map (vbad w) := by simp only [verdB, hw, if_true]
  rw [hM, hB]
  obtain ⟨vn, hN, hvn⟩ := i_SeenAt g ok.s bs w.now { rows := updR h.rows h.next (some ⟨41, 13, [wcs w v]⟩), next := h.next + 1, lo := h.next }
  have hvn : SVI vn (nowL w) := hvn
  have ln := hvn.len (X := X)
  have bn : (nowL w).length ≤ 2 ^ 30 := Nat.le_trans (seenAt_len ..) bs
  obtain ⟨e, s', h', he, hq⟩ := for_rule (b := evC (pk X).T (Pc (pk X)) L0_i_VerdictsNow) ((nowL w).length)
    (fun i s h1 => i ≤ (nowL w).length ∧ ∃ rows bad j7 j8 j19 vs, s = [(0, .agg (wcs w v)), (1, .elem (.own h.next) 0 0), (2, .nilS), (3, .nilS), (4, rows), (5, bad), (7, j7), (8, j8), (11, Bo false), (16, vn), (17, I (nowL w).length), (18, I i), (19, j19)] ∧ Out (h.next + 1) 25 1 (vs.map fun r => [r]) rows h1 ∧ Rows vs (((nowL w).take i).map (vrow w)) ∧ Out (h.next + 1) 4 1 (((nowL w).take i).map fun k => [Bo (vbad w k)]) bad h1 ∧ Apart rows bad ∧ h1.rows h.next = some ⟨41, 13, [wcs w v]⟩)
    (fun e s h1 => ∃ ji rows bad j7 j8 j19 vs, s = [(0, .agg (wcs w v)), (1, .elem (.own h.next) 0 0), (2, .nilS), (3, .nilS), (4, rows), (5, bad), (7, j7), (8, j8), (11, Bo false), (16, vn), (17, I (nowL w).length), (18, ji), (19, j19)] ∧ e = .exit 0 ∧ Out (h.next + 1) 25 1 (vs.map fun r => [r]) rows h1 ∧ Rows vs ((nowL w).map (vrow w)) ∧ Out (h.next + 1) 4 1 ((nowL w).map fun k => [Bo (vbad w k)]) bad h1)
    (s := [(0, .agg (wcs w v)), (1, .elem (.own h.next) 0 0), (2, .nilS), (3, .nilS), (4, .nilS), (5, .nilS), (7, .lit undef), (8, .lit undef), (11, Bo false), (16, vn), (17, I (nowL w).length), (18, I 0), (19, .lit undef)]) (h := { rows := updR h.rows h.next (some ⟨41, 13, [wcs w v]⟩), next := h.next + 1, lo := h.next }) ⟨Nat.zero_le _, _, _, _, _, _, [], rfl, ⟨Nat.le_succ _, Nat.le_refl _, .inl ⟨rfl, rfl⟩⟩, Rows.nil, ⟨Nat.le_succ _, Nat.le_refl _, .inl ⟨rfl, rfl⟩⟩, Apart.nil _, by simp⟩ (fun i s h1 hI => hI.1) (by
      rintro i s h1 ⟨hi, rows, bad, j7, j8, j19, vs, rfl, ho1, hrows, ho2, hap, hbx⟩
      unfold L0_i_VerdictsNow
      by_cases hlt : i < (nowL w).length
      · have hw2 := wadd (x := i) (y := 1) (by omega) (by omega)
        have hm := nowL_mem (List.getElem_mem hlt)
        have hat0 := hvn.idx (X := X) (h := h1) hlt
        have hat := fun h => sn_ati (X := X) ok.s (k := (nowL w)[i]) hm.1 (by omega) h
        have hx := hseen _ (List.getElem_mem hm.2)
        have hat2 := fun h => pr_ati (X := X) ok.p hx.1 hx.2 h
        have hpl : w.seen[(nowL w)[i].toNat].p.toNat < w.probes.length := by omega
        have hpo := ok.pp _ (List.getElem_mem hpl)
        have hv1 : vrow w (nowL w)[i] = rowOf w.probes[w.seen[(nowL w)[i].toNat].p.toNat].path w.links.length := by
          simp only [vrow, List.getElem?_eq_getElem hm.2, List.getElem?_eq_getElem hpl]
        have hv2 : vbad w (nowL w)[i] = w.seen[(nowL w)[i].toNat].bad := by simp only [vbad, List.getElem?_eq_getElem hm.2]
        have hlo2 : h1.lo ≤ h1.next := Nat.le_trans ho1.lo ho1.nx
        have hnx := ho1.nx
        have hbn : h.next ≠ h1.next := by omega
        have p1 := Past.add h1 (some ⟨89, 5, [snc w.seen[(nowL w)[i].toNat]]⟩) .nilS
        obtain ⟨vr, hR, hvr⟩ := i_RowOf g hpo.1 hpo.2 (w.links.length : Int) { rows := updR h1.rows h1.next (some ⟨89, 5, [snc w.seen[(nowL w)[i].toNat]]⟩), next := h1.next + 1, lo := h1.lo }
        have hl : vs.length = i := by have := hrows.1; simp at this; omega
        obtain ⟨v', h2, ha, ho1', p2, hf2⟩ := (ho1.keep p1 (Apart.nil _).symm).push (X := X) 47 (by simp) t_25 (by simp) (x := true) (e := [vr]) (by simp [rowOk, hvr.one]) (by simp; omega)
        have ho2a := (ho2.keep p1 (Apart.nil _).symm)
        obtain ⟨v'', h3, ha2, ho2', p3, hf3⟩ := (ho2a.keep p2 hap.symm).push (X := X) 57 (by simp) t_4 (by simp) (x := true) (e := [Bo (vbad w (nowL w)[i])]) (by simp [rowOk]) (by simp; omega)
        rw [hv2] at ha2
        have hap2 : Apart v' bad := ho2a.apart hf2
        have hap3 := ho1'.apart hf3
        have hb2 : h2.rows h1.next = some ⟨89, 5, [snc w.seen[(nowL w)[i].toNat]]⟩ := by
          rw [p2.rows _ (Nat.lt_succ_self _) (fun e => by have := ho1.lt e; omega)]
          simp
        have hb3 : h3.rows h.next = some ⟨41, 13, [wcs w v]⟩ := by
          rw [p3.rows _ (by have := p2.nx; simp at this; omega) (fun e => by have := ho2.ge e; omega), p2.rows _ (by simp; omega) (fun e => by have := ho1.ge e; omega)]
          simp [hbn, hbx]
        have hc := hvr.cells
        have h1' := hvr.one
        simp [hlt, hat0, hvn.get, hat, hat2, ok.s.get, ok.p.get, alloc, stor, addRow, hlo2, hbx, hbn, hx.1, hm.2, hpl, hR, l1, buildSlice, lits, hc, h1', ha, hb2, ha2, hw2]
        refine ⟨by omega, _, _, ⟨rfl, rfl⟩, vs ++ [vr], by simpa using ho1'.keep p3 hap2, ?_, ?_, hap3.symm, hb3⟩
        · rw [mt_succ _ hlt, hv1]
          exact hrows.push hvr
        · rw [mt_succ _ hlt]
          exact ho2'
      · have : i = (nowL w).length := by omega
        subst this
        rw [List.take_length] at hrows ho2
        simp
        exact ⟨_, _, _, ⟨rfl, rfl, rfl⟩, vs, ho1, hrows, ho2⟩)
  -- he, hq: ji, rows, bad, j7, j8, j19, vs, rfl, fin
  obtain ⟨ji, rows, bad, j7, j8, j19, vs, rfl, rfl, ho1, hrows, ho2⟩ := hq
  obtain ⟨v1, hz1, hv1⟩ := ho1.frz (n := h.next) (k := 36) (Nat.le_succ _) (frzEs_rows _ _ _ vs _ hrows)
  obtain ⟨v2, hz2, hv2⟩ := ho2.frz (n := h.next) (k := 36) (Nat.le_succ _) (frzEs_lits _ _ _ _ (by
    intro c hc x hx
    obtain ⟨b, _, rfl⟩ := List.mem_map.1 hc
    exact ⟨_, List.mem_singleton.1 hx⟩))
  refine ⟨v1, v2, r_i_VerdictsNow g ?_, ⟨vs, hv1, hrows⟩, by unfold SVB; rw [List.map_map]; exact hv2⟩
  unfold cc_i_VerdictsNow
  simp [box, addRow, o1, o2, o3, o4, o5, o6, o7, f1, hN, ln, he]
  show frz h' h.next (39 + 1) _ = _
  have hz1 : frz h' h.next 38 rows = some v1 := hz1
  have hz2 : frz h' h.next 38 bad = some v2 := hz2
  rw [frz, frzL, frzL, frzL]
  rw [hz1, hz2]
  rfl

theorem s_VerdictsNow (g : Good X) {w : Wd} {v : Wv} (ok : WOk w v) (bs : w.seen.length ≤ 2 ^ 30) (h : Hp) :
    ∃ v1 v2, Pc (pk X) 27 [.agg (wcs w v)] h = some (.tup [v1, v2], h) ∧ SVV v1 (verdM w) ∧ SVB v2 (verdB w) := by
  have o1 := ok.l.one; have o2 := ok.d.one; have o3 := ok.dn.one; have o4 := ok.p.one; have o5 := ok.o.one; have o6 := ok.li.one; have o7 := ok.s.one
  have l1 := lk_len (X := X) ok.l
  have f1 := s_IsWorld g ok
  cases hw : isWorld w <;> rw [hw] at f1
  · refine ⟨.imm true [], .imm true [], r_s_VerdictsNow g ?_, by simp only [verdM, hw]; exact ⟨[], .inr ⟨true, rfl⟩, Rows.nil⟩, by simp only [verdB, hw]; exact .inr ⟨true, rfl⟩⟩
    unfold cc_s_VerdictsNow
    simp [box, addRow, o1, o2, o3, o4, o5, o6, o7, f1, buildSlice, lits]
    show frz _ h.next (39 + 1) _ = _
    simp [frz, frzL, frzEs]
  have hseen := isWorld_seen hw
  have hM : verdM w = (nowL w).map (vrow w) := by simp only [verdM, hw, if_true]
  have hB : verdB w = (nowL w).map (vbad w) := by simp only [verdB, hw, if_true]
  rw [hM, hB]
  obtain ⟨vn, hN, hvn⟩ := s_SeenAt g ok.s bs w.now { rows := updR h.rows h.next (some ⟨41, 13, [wcs w v]⟩), next := h.next + 1, lo := h.next }
  have hvn : SVI vn (nowL w) := hvn
  have ln := hvn.len (X := X)
  have bn : (nowL w).length ≤ 2 ^ 30 := Nat.le_trans (seenAt_len ..) bs
  obtain ⟨e, s', h', he, hq⟩ := for_rule (b := evC (pk X).T (Pc (pk X)) L0_s_VerdictsNow) ((nowL w).length)
    (fun i s h1 => i ≤ (nowL w).length ∧ ∃ rows bad j8 j24 vs, s = [(0, .agg (wcs w v)), (1, .elem (.own h.next) 0 0), (2, .nilS), (3, .nilS), (4, rows), (5, bad), (6, vn), (7, I i), (8, j8), (13, Bo false), (24, j24)] ∧ Out (h.next + 1) 25 1 (vs.map fun r => [r]) rows h1 ∧ Rows vs (((nowL w).take i).map (vrow w)) ∧ Out (h.next + 1) 4 1 (((nowL w).take i).map fun k => [Bo (vbad w k)]) bad h1 ∧ Apart rows bad ∧ h1.rows h.next = some ⟨41, 13, [wcs w v]⟩)
    (fun e s h1 => ∃ ji rows bad j8 j24 vs, s = [(0, .agg (wcs w v)), (1, .elem (.own h.next) 0 0), (2, .nilS), (3, .nilS), (4, rows), (5, bad), (6, vn), (7, ji), (8, j8), (13, Bo false), (24, j24)] ∧ e = .exit 0 ∧ Out (h.next + 1) 25 1 (vs.map fun r => [r]) rows h1 ∧ Rows vs ((nowL w).map (vrow w)) ∧ Out (h.next + 1) 4 1 ((nowL w).map fun k => [Bo (vbad w k)]) bad h1)
    (s := [(0, .agg (wcs w v)), (1, .elem (.own h.next) 0 0), (2, .nilS), (3, .nilS), (4, .imm true []), (5, .imm true []), (6, vn), (7, I 0), (8, .lit undef), (13, Bo false), (24, .lit undef)]) (h := { rows := updR h.rows h.next (some ⟨41, 13, [wcs w v]⟩), next := h.next + 1, lo := h.next }) ⟨Nat.zero_le _, _, _, _, _, [], rfl, ⟨Nat.le_succ _, Nat.le_refl _, .inr (.inl ⟨rfl, rfl⟩)⟩, Rows.nil, ⟨Nat.le_succ _, Nat.le_refl _, .inr (.inl ⟨rfl, rfl⟩)⟩, Apart.imm _ _ _, by simp⟩ (fun i s h1 hI => hI.1) (by
      rintro i s h1 ⟨hi, rows, bad, j8, j24, vs, rfl, ho1, hrows, ho2, hap, hbx⟩
      unfold L0_s_VerdictsNow
      by_cases hlt : i < (nowL w).length
      · have hw2 := wadd (x := i) (y := 1) (by omega) (by omega)
        have hm := nowL_mem (List.getElem_mem hlt)
        have hat0 := fun h => hvn.idx (X := X) (h := h) hlt
        have hat := fun h => sn_ati (X := X) ok.s (k := (nowL w)[i]) hm.1 (by omega) h
        have hx := hseen _ (List.getElem_mem hm.2)
        have hat2 := fun h => pr_ati (X := X) ok.p hx.1 hx.2 h
        have hpl : w.seen[(nowL w)[i].toNat].p.toNat < w.probes.length := by omega
        have hpo := ok.pp _ (List.getElem_mem hpl)
        have hv1 : vrow w (nowL w)[i] = rowOf w.probes[w.seen[(nowL w)[i].toNat].p.toNat].path w.links.length := by
          simp only [vrow, List.getElem?_eq_getElem hm.2, List.getElem?_eq_getElem hpl]
        have hv2 : vbad w (nowL w)[i] = w.seen[(nowL w)[i].toNat].bad := by simp only [vbad, List.getElem?_eq_getElem hm.2]
        have hlo2 : h1.lo ≤ h1.next := Nat.le_trans ho1.lo ho1.nx
        have hnx := ho1.nx
        have hbn : h.next ≠ h1.next := by omega
        have p1 := Past.add h1 (some ⟨89, 5, [snc w.seen[(nowL w)[i].toNat]]⟩) .nilS
        obtain ⟨vr, hR, hvr⟩ := s_RowOf g hpo.1 hpo.2 (w.links.length : Int) { rows := updR h1.rows h1.next (some ⟨89, 5, [snc w.seen[(nowL w)[i].toNat]]⟩), next := h1.next + 1, lo := h1.lo }
        have hl : vs.length = i := by have := hrows.1; simp at this; omega
        obtain ⟨v', h2, ha, ho1', p2, hf2⟩ := (ho1.keep p1 (Apart.nil _).symm).push (X := X) 47 (by simp) t_25 (by simp) (x := true) (e := [vr]) (by simp [rowOk, hvr.one]) (by simp; omega)
        have ho2a := (ho2.keep p1 (Apart.nil _).symm)
        obtain ⟨v'', h3, ha2, ho2', p3, hf3⟩ := (ho2a.keep p2 hap.symm).push (X := X) 57 (by simp) t_4 (by simp) (x := true) (e := [Bo (vbad w (nowL w)[i])]) (by simp [rowOk]) (by simp; omega)
        rw [hv2] at ha2
        have hap2 : Apart v' bad := ho2a.apart hf2
        have hap3 := ho1'.apart hf3
        have hb2 : h2.rows h1.next = some ⟨89, 5, [snc w.seen[(nowL w)[i].toNat]]⟩ := by
          rw [p2.rows _ (Nat.lt_succ_self _) (fun e => by have := ho1.lt e; omega)]
          simp
        have hb3 : h3.rows h.next = some ⟨41, 13, [wcs w v]⟩ := by
          rw [p3.rows _ (by have := p2.nx; simp at this; omega) (fun e => by have := ho2.ge e; omega), p2.rows _ (by simp; omega) (fun e => by have := ho1.ge e; omega)]
          simp [hbn, hbx]
        have hc := hvr.cells
        have h1' := hvr.one
        simp [hlt, ln, hat0, hvn.get, hat, hat2, ok.s.get, ok.p.get, alloc, stor, addRow, hlo2, hbx, hbn, hx.1, hm.2, hpl, hR, l1, buildSlice, lits, hc, h1', ha, hb2, ha2, hw2]
        refine ⟨by omega, _, _, ⟨rfl, rfl⟩, vs ++ [vr], by simpa using ho1'.keep p3 hap2, ?_, ?_, hap3.symm, hb3⟩
        · rw [mt_succ _ hlt, hv1]
          exact hrows.push hvr
        · rw [mt_succ _ hlt]
          exact ho2'
      · have : i = (nowL w).length := by omega
        subst this
        rw [List.take_length] at hrows ho2
        simp [ln]
        exact ⟨_, _, _, ⟨rfl, rfl, rfl⟩, vs, ho1, hrows, ho2⟩)
  -- he, hq: ji, rows, bad, j8, j24, vs, rfl, fin
  obtain ⟨ji, rows, bad, j8, j24, vs, rfl, rfl, ho1, hrows, ho2⟩ := hq
  obtain ⟨v1, hz1, hv1⟩ := ho1.frz (n := h.next) (k := 36) (Nat.le_succ _) (frzEs_rows _ _ _ vs _ hrows)
  obtain ⟨v2, hz2, hv2⟩ := ho2.frz (n := h.next) (k := 36) (Nat.le_succ _) (frzEs_lits _ _ _ _ (by
    intro c hc x hx
    obtain ⟨b, _, rfl⟩ := List.mem_map.1 hc
    exact ⟨_, List.mem_singleton.1 hx⟩))
  refine ⟨v1, v2, r_s_VerdictsNow g ?_, ⟨vs, hv1, hrows⟩, by unfold SVB; rw [List.map_map]; exact hv2⟩
  unfold cc_s_VerdictsNow
  simp [box, addRow, o1, o2, o3, o4, o5, o6, o7, f1, hN, ln, he, buildSlice, lits]
  show frz h' h.next (39 + 1) _ = _
  have hz1 : frz h' h.next 38 rows = some v1 := hz1
  have hz2 : frz h' h.next 38 bad = some v2 := hz2
  rw [frz, frzL, frzL, frzL]
  rw [hz1, hz2]
  rfl
end Go.Proofs.Ev
end
section
/- Slices of the run's own rows, built by appending. -/
set_option linter.unusedVariables false
set_option linter.unusedSimpArgs false
namespace Go.Proofs.Ev
open Go Go.RowKit
variable {X : FuncId → Option (List AV → Hp → Option (AV × Hp))}

/-- A row of ints: one that stands everywhere, or one of the run's own. -/
def OrI (n0 : Nat) (h1 : Hp) (v : AV) (l : List Int) : Prop := SVI v l ∨ ∃ id, v = .own id ∧ n0 ≤ id ∧ id < h1.next ∧ h1.rows id = some ⟨3, 1, l.map fun n => [I n]⟩
theorem OrI.get {n0 : Nat} {h1 : Hp} {v : AV} {l : List Int} (o : OrI n0 h1 v l) : h1.get v = some (l.map fun n => [I n]) := by
  rcases o with o | ⟨id, rfl, _, _, hr⟩
  · exact o.get h1
  · simp [hr]
theorem OrI.one {n0 : Nat} {h1 : Hp} {v : AV} {l : List Int} (o : OrI n0 h1 v l) : AV.one v = true := by
  rcases o with o | ⟨id, rfl, _, _, hr⟩
  · exact o.one
  · rfl
theorem OrI.cells {n0 : Nat} {h1 : Hp} {v : AV} {l : List Int} (o : OrI n0 h1 v l) : AV.cells v = [v] := by
  rcases o with o | ⟨id, rfl, _, _, hr⟩
  · exact o.cells
  · rfl
theorem OrI.len {n0 : Nat} {h1 : Hp} {v : AV} {l : List Int} (o : OrI n0 h1 v l) : lenA (pk X).T h1 25 v = some (I l.length) := by
  rcases o with o | ⟨id, rfl, _, _, hr⟩
  · exact o.len h1
  · simp [lenA, slT, hr]
theorem OrI.idx {n0 : Nat} {h1 : Hp} {v : AV} {l : List Int} (o : OrI n0 h1 v l) {k : Nat} (hk : k < l.length) : idxAddr (pk X).T h1 25 v (I k) = some (.elem v k 0) := by
  rcases o with o | ⟨id, rfl, _, _, hr⟩
  · exact o.idx h1 hk
  · simp [idxAddr, hr, hk]
theorem OrI.keep {n0 : Nat} {h1 h2 : Hp} {v w : AV} {l : List Int} (o : OrI n0 h1 v l) (p : Past h1 h2 w) (a : Apart v w) : OrI n0 h2 v l := by
  rcases o with o | ⟨id, rfl, hid, hlt, hr⟩
  · exact .inl o
  · exact .inr ⟨id, rfl, hid, Nat.lt_of_lt_of_le hlt p.nx, by rw [p.rows id hlt (a id rfl)]; exact hr⟩
theorem Out.orI {n0 : Nat} {h1 : Hp} {v : AV} {l : List Int} (o : Out n0 3 1 (l.map fun n => [I n]) v h1) : OrI n0 h1 v l := by
  rcases o.val with ⟨h, rfl⟩ | ⟨h, rfl⟩ | ⟨id, rfl, hid, hlt, hr⟩
  · exact .inl (.inl ⟨rfl, by simpa using h⟩)
  · refine .inl ?_
    have : l = [] := by simpa using h
    subst this
    exact .inr ⟨true, rfl⟩
  · exact .inr ⟨id, rfl, hid, hlt, hr⟩
theorem OrI.lt {n0 : Nat} {h1 : Hp} {v : AV} {l : List Int} (o : OrI n0 h1 v l) {id : Nat} (h : v = .own id) : n0 ≤ id ∧ id < h1.next := by
  rcases o with o | ⟨i, rfl, hid, hlt, hr⟩
  · rcases o with ⟨rfl, _⟩ | ⟨x, rfl⟩ <;> cases h
  · cases h; exact ⟨hid, hlt⟩

/-- A slice of such rows under way. -/
def OutD (n0 : Nat) (ll : List (List Int)) (v : AV) (h1 : Hp) : Prop :=
  ∃ vs : List AV, Out n0 25 1 (vs.map fun r => [r]) v h1 ∧ vs.length = ll.length ∧ (∀ i (h1' : i < vs.length) (h2 : i < ll.length), OrI n0 h1 vs[i] ll[i]) ∧ ∀ x ∈ vs, Apart x v

theorem OutD.nil {n0 : Nat} {h1 : Hp} (lo : h1.lo ≤ n0) (nx : n0 ≤ h1.next) : OutD n0 [] .nilS h1 := ⟨[], ⟨lo, nx, .inl ⟨rfl, rfl⟩⟩, rfl, fun i h => by simp at h, fun x hx => by cases hx⟩
theorem OutD.emp {n0 : Nat} {h1 : Hp} (lo : h1.lo ≤ n0) (nx : n0 ≤ h1.next) : OutD n0 [] (.imm true []) h1 := ⟨[], ⟨lo, nx, .inr (.inl ⟨rfl, rfl⟩)⟩, rfl, fun i h => by simp at h, fun x hx => by cases hx⟩

theorem OutD.lo {n0 : Nat} {ll : List (List Int)} {v : AV} {h1 : Hp} (o : OutD n0 ll v h1) : h1.lo ≤ n0 := by obtain ⟨vs, o, _⟩ := o; exact o.lo
theorem OutD.nx {n0 : Nat} {ll : List (List Int)} {v : AV} {h1 : Hp} (o : OutD n0 ll v h1) : n0 ≤ h1.next := by obtain ⟨vs, o, _⟩ := o; exact o.nx
theorem OutD.lt {n0 : Nat} {ll : List (List Int)} {v : AV} {h1 : Hp} (o : OutD n0 ll v h1) {id : Nat} (h : v = .own id) : n0 ≤ id ∧ id < h1.next := by obtain ⟨vs, o, _⟩ := o; exact ⟨o.ge h, o.lt h⟩

/-- Nothing of it is w. -/
def FarD (vs : List AV) (w : AV) : Prop := ∀ x ∈ vs, Apart x w

theorem OutD.ext {n0 : Nat} {ll : List (List Int)} {v : AV} {h1 h2 : Hp} (o : OutD n0 ll v h1) (p : Past h1 h2 .nilS) : OutD n0 ll v h2 := by
  obtain ⟨vs, o, hl, hr, ha⟩ := o
  exact ⟨vs, o.keep p (Apart.nil _).symm, hl, fun i h1' h2' => (hr i h1' h2').keep p (Apart.nil _).symm, ha⟩

theorem OutD.push {n0 : Nat} {ll : List (List Int)} {v : AV} {h1 : Hp} (o : OutD n0 ll v h1) {r : AV} {l : List Int} (hr : OrI n0 h1 r l) (ha : Apart r v) (bl : ll.length < 2 ^ 31) (x : Bool) :
    ∃ v' h2, app (pk X).T h1 47 v (.imm x [[r]]) = some (v', h2) ∧ OutD n0 (ll ++ [l]) v' h2 ∧ Past h1 h2 v ∧ ∃ id, v' = .own id ∧ h1.next ≤ id := by
  obtain ⟨vs, o, hl, hrs, hap⟩ := o
  obtain ⟨v', h2, ha', o', p, hf⟩ := o.push (X := X) 47 (by simp) t_25 (by simp) (x := x) (e := [r]) (by simp [rowOk, hr.one]) (by simp; omega)
  have hap' : ∀ y ∈ vs ++ [r], Apart y v' := by
    obtain ⟨j, rfl, hj⟩ := hf
    intro y hy id h1' h2'
    cases h2'
    rcases List.mem_append.1 hy with hy | hy
    · obtain ⟨i, hi, rfl⟩ := List.mem_iff_getElem.1 hy
      have := ((hrs i hi (by omega)).lt h1').2
      omega
    · obtain rfl := List.mem_singleton.1 hy
      have := (hr.lt h1').2
      omega
  refine ⟨v', h2, ha', ⟨vs ++ [r], by simpa using o', by simp [hl], fun i h1' h2' => ?_, hap'⟩, p, hf⟩
  by_cases hi : i < vs.length
  · rw [List.getElem_append_left hi, List.getElem_append_left (by omega)]
    exact (hrs i hi (by omega)).keep p (hap _ (List.getElem_mem hi))
  · have e1 : i = vs.length := by simp at h1'; omega
    subst e1
    have e2 : (ll ++ [l])[vs.length] = l := by
      rw [List.getElem_append_right (by omega)]
      simp [hl]
    rw [e2]
    simp only [List.getElem_concat_length]
    exact hr.keep p ha

theorem OutD.len {n0 : Nat} {ll : List (List Int)} {v : AV} {h1 : Hp} (o : OutD n0 ll v h1) : lenA (pk X).T h1 47 v = some (I ll.length) := by
  obtain ⟨vs, o, hl, hrs, hap⟩ := o
  rcases o.val with ⟨h, rfl⟩ | ⟨h, rfl⟩ | ⟨id, rfl, hid, hlt, hr⟩
  · have : vs = [] := by simpa using h
    subst this
    simp [lenA, slT, ← hl]
  · have : vs = [] := by simpa using h
    subst this
    simp [lenA, slT, ← hl]
  · simp [lenA, slT, hr, hl]

theorem OutD.at_ {n0 : Nat} {ll : List (List Int)} {v : AV} {h1 : Hp} (o : OutD n0 ll v h1) {k : Nat} (hk : k < ll.length) :
    ∃ r, idxAddr (pk X).T h1 47 v (I k) = some (.elem v k 0) ∧ ld (pk X).T h1 25 (.elem v k 0) = some r ∧ OrI n0 h1 r ll[k] ∧ Apart r v := by
  obtain ⟨vs, o, hl, hrs, hap⟩ := o
  have hk' : k < vs.length := by omega
  refine ⟨vs[k], ?_⟩
  rcases o.val with ⟨h, rfl⟩ | ⟨h, rfl⟩ | ⟨id, rfl, hid, hlt, hr⟩
  · have : vs = [] := by simpa using h
    subst this
    simp at hk'
  · have : vs = [] := by simpa using h
    subst this
    simp at hk'
  · exact ⟨by simp [idxAddr, hr, hk'], by simp [hr, hk'], hrs k hk' hk, hap _ (List.getElem_mem hk')⟩

theorem frz_OrI {n0 : Nat} {h1 : Hp} {v : AV} {l : List Int} (o : OrI n0 h1 v l) {n : Nat} (hn : n ≤ n0) (k : Nat) : ∃ v', frz h1 n (k + 4) v = some v' ∧ SVI v' l := by
  rcases o with o | ⟨id, rfl, hid, hlt, hr⟩
  · exact ⟨v, frz_SVI o h1 n k, o⟩
  · refine ⟨.imm false (l.map fun n => [I n]), ?_, .inr ⟨false, rfl⟩⟩
    simp only [frz, Nat.le_trans hn hid, if_true, hr]
    rw [frzEs_ints]
    rfl
theorem frzEs_OrI {n0 : Nat} {h1 : Hp} {n : Nat} (hn : n ≤ n0) (k : Nat) : ∀ (vs : List AV) (ll : List (List Int)), vs.length = ll.length → (∀ i (h1' : i < vs.length) (h2 : i < ll.length), OrI n0 h1 vs[i] ll[i]) →
    ∃ ws, frzEs h1 n (k + 6) (vs.map fun r => [r]) = some (ws.map fun r => [r]) ∧ Rows ws ll
  | [], [], _, _ => ⟨[], by simp [frzEs], Rows.nil⟩
  | [], _ :: _, h, _ => by simp at h
  | _ :: _, [], h, _ => by simp at h
  | v :: vs, l :: ll, hl, hr => by
    obtain ⟨v', hz, hv⟩ := frz_OrI (hr 0 (by simp) (by simp)) hn k
    obtain ⟨ws, hzs, hws⟩ := frzEs_OrI hn k vs ll (by simpa using hl) (fun i h1' h2 => hr (i + 1) (by simpa using h1') (by simpa using h2))
    refine ⟨v' :: ws, ?_, Rows.cons hv hws⟩
    simp only [List.map_cons, frzEs, frzL, hzs]
    have hz : frz h1 n (k + 4) v = some v' := hz
    rw [hz]
theorem OutD.frz {n0 : Nat} {ll : List (List Int)} {v : AV} {h1 : Hp} (o : OutD n0 ll v h1) {n : Nat} (hn : n ≤ n0) (k : Nat) : ∃ v', Go.Proofs.Ev.frz h1 n (k + 7) v = some v' ∧ SVV v' ll := by
  obtain ⟨vs, o, hl, hrs, hap⟩ := o
  rcases o.val with ⟨h, rfl⟩ | ⟨h, rfl⟩ | ⟨id, rfl, hid, hlt, hr⟩
  · have e : vs = [] := by simpa using h
    subst e
    have e : ll = [] := by simpa using hl.symm
    subst e
    exact ⟨.nilS, by simp [Go.Proofs.Ev.frz], [], .inl ⟨rfl, rfl⟩, Rows.nil⟩
  · have e : vs = [] := by simpa using h
    subst e
    have e : ll = [] := by simpa using hl.symm
    subst e
    exact ⟨.imm true [], by simp [Go.Proofs.Ev.frz, frzEs], [], .inr ⟨true, rfl⟩, Rows.nil⟩
  · obtain ⟨ws, hz, hws⟩ := frzEs_OrI hn k vs ll hl hrs
    refine ⟨.imm false (ws.map fun r => [r]), ?_, ws, .inr ⟨false, rfl⟩, hws⟩
    simp only [Go.Proofs.Ev.frz, Nat.le_trans hn hid, if_true, hr, hz]
    rfl

/-- A clone of such a row. -/
theorem sl_Clone_OrI (g : Good X) {n0 : Nat} {h : Hp} {v : AV} {l : List Int} (o : OrI n0 h v l) (lo : h.lo ≤ n0) (nx : n0 ≤ h.next) (bl : l.length ≤ 2 ^ 32) :
    ∃ v1 h1, Pc (pk X) 117 [v] h = some (v1, h1) ∧ Out h.next 3 1 (l.map fun n => [I n]) v1 h1 ∧ Past h h1 .nilS := by
  rcases o with o | ⟨id, rfl, hid, hlt, hr⟩
  · obtain ⟨v1, h1, hc, hk⟩ := sl_Clone_int g o bl h
    refine ⟨v1, h1, hc, ?_⟩
    rcases hk with ⟨rfl, rfl, rfl⟩ | ⟨rfl, rfl, rfl⟩ | ⟨hne, rfl, rfl⟩
    · exact ⟨⟨by omega, Nat.le_refl _, .inl ⟨rfl, rfl⟩⟩, Past.rfl' _ _⟩
    · exact ⟨⟨by omega, Nat.le_refl _, .inr (.inl ⟨rfl, rfl⟩)⟩, Past.rfl' _ _⟩
    · exact ⟨⟨by simp [addRow]; omega, by simp [addRow], .inr (.inr ⟨_, rfl, Nat.le_refl _, by simp [addRow], by simp [addRow]⟩)⟩, Past.add _ _ _⟩
  · have hrun : ∃ v1 h1, Pc (pk X) 117 [.own id] h = some (v1, h1) ∧ Cloned l v1 h h1 := by
      refine r_sl_Clone_Sint_int g ?_
      unfold cc_sl_Clone_Sint_int
      cases l with
      | nil => simp [bin, isNil, Cloned, buildSlice, lits, app, hr, rowOk]
      | cons n l =>
        have hr' := row_ok (n :: l)
        simp only [List.map_cons, List.length_cons] at hr' bl
        have : l.length + 1 ≤ most := by unfold most; omega
        simp [bin, isNil, Cloned, buildSlice, lits, app, hr, hr', rowOk, this]
    obtain ⟨v1, h1, hc, hk⟩ := hrun
    refine ⟨v1, h1, hc, ?_⟩
    rcases hk with ⟨rfl, rfl, rfl⟩ | ⟨rfl, rfl, rfl⟩ | ⟨hne, rfl, rfl⟩
    · exact ⟨⟨by omega, Nat.le_refl _, .inl ⟨rfl, rfl⟩⟩, Past.rfl' _ _⟩
    · exact ⟨⟨by omega, Nat.le_refl _, .inr (.inl ⟨rfl, rfl⟩)⟩, Past.rfl' _ _⟩
    · exact ⟨⟨by simp [addRow]; omega, by simp [addRow], .inr (.inr ⟨_, rfl, Nat.le_refl _, by simp [addRow], by simp [addRow]⟩)⟩, Past.add _ _ _⟩
end Go.Proofs.Ev
end
