/- The evaluator of the model's code and the functions' specs, part 7. Each part begins with a line that says what it holds. -/
import Derived.Test.YtgmimlfiedmclaaGreatJ6
import Derived.Sort.OwnSortedInts
import Derived.Lib.OwnBridge
section
/- The library's sorting and compacting; the run of a program, and what it says of the machine. -/
set_option maxHeartbeats 4000000
set_option maxRecDepth 100000
set_option linter.unusedVariables false
set_option linter.unusedSimpArgs false
namespace Go.Proofs.Ev
open Go Go.RowKit Go.Sort

/-- The library's words. -/
def XX (f : FuncId) : Option (List AV → Hp → Option (AV × Hp)) := if f = 123 then some (sortX 3) else if f = 124 then some (compX 3) else none

theorem lrel_one {E : En} {x : AV} {us : List Value} (h : LRel E [x] us) : ∃ u, us = [u] ∧ VRel E x u := by
  obtain ⟨hl, hv⟩ := h
  match us, hl with
  | [u], _ => exact ⟨u, rfl, hv 0 (by simp) (by simp)⟩

theorem lrel_ints {E : En} : ∀ (l : List Int) (us : List Value), LRel E (l.map fun n => [I n]).flatten us → us = l.map (Value.int .i64)
  | [], us, h => by
    have := h.1
    simp at this
    simpa using this
  | n :: l, [], h => by have := h.1; simp at this
  | n :: l, u :: us, h => by
    have h0 := h.2 0 (by simp) (by simp)
    have hr : LRel E (l.map fun n => [I n]).flatten us := ⟨by have := h.1; simpa using this, fun j h1 h2 => by
      have := h.2 (j + 1) (by simpa using h1) (by simpa using h2)
      simpa using this⟩
    rw [lrel_ints l us hr]
    simp at h0
    cases h0
    rfl
theorem lrel_ints_mk {E : En} : ∀ (l : List Int), LRel E (l.map fun n => [I n]).flatten (l.map (Value.int .i64))
  | [] => LRel.nil E
  | n :: l => by
    simp only [List.map_cons, List.flatten_cons, List.cons_append, List.nil_append]
    exact (lrel_ints_mk l).cons (.lit _)

/-- An own row of ints, in the words of the shelf. -/
theorem own_row {h : Hp} {B : Nat} {E : En} (s : SRel h B E) {id : Nat} {r : Row} (hr : h.rows id = some r) {l : List Int} (he : r.es = l.map fun n => [I n]) (hz : r.sz = 1) :
    ∃ cur, E.w.heap[(E.m id).blk]? = some (.cells cur r.ty (0, 0)) ∧ cur.size = (E.m id).cap * 1 ∧ (E.m id).len = l.length ∧ l.length ≤ (E.m id).cap ∧ (E.m id).cap ≤ maxLen ∧ (E.m id).blk < E.w.heap.size ∧
      Holds (Value.int .i64) E.w (E.m id).blk 0 l.toArray := by
  have R := s.rows id r hr
  obtain ⟨cur, us, h1, h2, h3, h4⟩ := R.cells
  rw [he] at h3 h4
  rw [hz] at h2 h3
  have hu := lrel_ints l us h4
  subst hu
  have hlen : (E.m id).len = l.length := by rw [R.len, he, List.length_map]
  have hcap : l.length ≤ (E.m id).cap := by rw [← hlen]; exact R.cap
  have how : E.w.ownsRow 0 r.ty 1 (.slice (some ⟨(E.m id).blk, 0, none⟩) l.length (E.m id).cap) l.length (l.map (Value.int .i64)) :=
    ⟨by simp, .inr ⟨_, _, cur, rfl, Nat.zero_le _, h1, hcap, R.max, by simpa using h2, by simpa using h3⟩⟩
  obtain ⟨g, cap, hv, _, hg, _, _, _, hH⟩ := Lib.holds_of_ownsRow how (by simp)
  cases hv
  exact ⟨cur, h1, h2, hlen, hcap, R.max, hg, hH⟩

theorem sort_ok {args : List AV} {h : Hp} {v : AV} {h' : Hp} (e : sortX 3 args h = some (v, h')) : CallOk Tryz.prog 123 args h v h' := by
  intro B E us s ra
  unfold sortX at e
  split at e
  · rename_i id
    obtain ⟨u, rfl, hu⟩ := lrel_one ra
    split at e
    · rename_i r hr
      split at e
      · rename_i l hl
        split at e
        · rename_i hc
          obtain ⟨hlo, hty, hsz, hbl⟩ := hc
          simp only [Option.some.injEq, Prod.mk.injEq] at e
          obtain ⟨rfl, rfl⟩ := e
          have hes := intsOf_some _ _ hl
          obtain ⟨cur, h1, h2, hlen, hcap, hmax, hg, hH⟩ := own_row s hr hes hsz
          cases hu
          rw [hlen]
          refine Calls.mono (Tryz.slices_Sort_int (E.m id).blk 0 (E.m id).cap l E.w hH hg hbl) fun e w' ⟨he, n, os, hw⟩ => ?_
          subst hw
          have gb := grownBy_sortedI (w := E.w) (g := (E.m id).blk) (n := n) (os := os) (l.mergeSort fun x y => decide (x ≤ y)).toArray
          have hm : (l.mergeSort fun x y => decide (x ≤ y)).length = l.length := by simp
          have W := s.write hr hlo (es := (l.mergeSort fun x y => decide (x ≤ y)).map fun n => [I n]) (by rw [hes]; simp) (by intro e he; obtain ⟨n, _, rfl⟩ := List.mem_map.1 he; simp [hsz])
            (w' := grow (putRow (Value.int .i64) (Sort.ahead E.w n) (E.m id).blk 0 (l.mergeSort fun x y => decide (x ≤ y)).toArray) os)
            ⟨gb.os, gb.tape, gb.output, gb.size, fun b hb hne => gb.block b hb (fun e => hne (Option.some.inj e))⟩ (heap_sortedI _ h1) (by rw [hsz]; simpa [putCells] using h2)
            (us := (l.mergeSort fun x y => decide (x ≤ y)).map (Value.int .i64)) (by rw [hsz, Nat.mul_one, List.length_map]; exact take_putCellsI cur _ (by rw [hm]; omega)) (lrel_ints_mk _)
          obtain ⟨g1, g2, _⟩ := W
          obtain ⟨ty, sz, es⟩ := r
          simp only at hty hsz
          subst hty hsz
          exact ⟨.tuple #[], E.at _, he, rfl, g1, g2, .tup [] [] rfl (fun j h => by simp at h)⟩
        · cases e
      · cases e
    · cases e
  · simp only [Option.some.injEq, Prod.mk.injEq] at e
    obtain ⟨rfl, rfl⟩ := e
    obtain ⟨u, rfl, hu⟩ := lrel_one ra
    cases hu
    exact Calls.mono (Tryz.slices_Sort_int_none none 0 E.w) fun e w' ⟨he, hw⟩ => ⟨.tuple #[], E, he, hw, s, Stp.refl _ _, .tup [] [] rfl (fun j h => by simp at h)⟩
  · simp only [Option.some.injEq, Prod.mk.injEq] at e
    obtain ⟨rfl, rfl⟩ := e
    obtain ⟨u, rfl, hu⟩ := lrel_one ra
    cases hu with
    | imm x es sz a c us hsz hl hc hO hcap hx hm hv =>
    exact Calls.mono (Tryz.slices_Sort_int_none (some a) c E.w) fun e w' ⟨he, hw⟩ => ⟨.tuple #[], E, he, hw, s, Stp.refl _ _, .tup [] [] rfl (fun j h => by simp at h)⟩
  · cases e

theorem comp_ok {args : List AV} {h : Hp} {v : AV} {h' : Hp} (e : compX 3 args h = some (v, h')) : CallOk Tryz.prog 124 args h v h' := by
  intro B E us s ra
  unfold compX at e
  split at e
  · rename_i id
    obtain ⟨u, rfl, hu⟩ := lrel_one ra
    split at e
    · rename_i r hr
      split at e
      · rename_i l hl
        split at e
        · rename_i hc
          obtain ⟨hlo, hty, hsz, hbl⟩ := hc
          simp only [Option.some.injEq, Prod.mk.injEq] at e
          obtain ⟨rfl, rfl⟩ := e
          have hes := intsOf_some _ _ hl
          obtain ⟨cur, h1, h2, hlen, hcap, hmax, hg, hH⟩ := own_row s hr hes hsz
          cases hu
          rw [hlen]
          refine Calls.mono (Tryz.slices_Compact_int (E.m id).blk 0 (E.m id).cap l E.w hH hbl hcap) fun e w' ⟨he, q, hw⟩ => ?_
          have hcl := Lib.compact_length_le l
          generalize hys : Lib.compact l ++ List.replicate (l.length - (Lib.compact l).length) 0 = ys at hw
          have hyl : ys.length = l.length := by rw [← hys]; simp; omega
          have hyt : ys.take (Lib.compact l).length = Lib.compact l := by rw [← hys]; simp
          have e0 : grow (putRow (Value.int .i64) (Sort.ahead E.w q) (E.m id).blk 0 ys.toArray) #[] = w' := by rw [hw, grow_empty]
          have gb := grownBy_sortedI (w := E.w) (g := (E.m id).blk) (n := q) (os := #[]) ys.toArray
          have hh := heap_sortedI (n := q) (os := #[]) ys.toArray h1
          rw [e0] at gb hh
          have W := s.app hr hlo (es := (Lib.compact l).map fun n => [I n]) (by intro e he; obtain ⟨n, _, rfl⟩ := List.mem_map.1 he; simp [hsz])
            (w' := w') ⟨gb.os, gb.tape, gb.output, gb.size, fun b hb hne => gb.block b hb (fun e => hne (Option.some.inj e))⟩ (.inl rfl) hh
            (cap := (E.m id).cap) (by simp; omega) hmax (by rw [hsz]; simpa [putCells] using h2)
            (us := (Lib.compact l).map (Value.int .i64)) (by
              rw [hsz, Nat.mul_one, List.length_map]
              have ht := take_putCellsI cur ys (by omega)
              have : ((putCells (Value.int .i64) 0 ys.toArray cur).toList.take ys.length).take (Lib.compact l).length = (ys.map (Value.int .i64)).take (Lib.compact l).length := by rw [ht]
              rw [List.take_take, Nat.min_eq_left (by omega), ← List.map_take, hyt] at this
              exact this) (lrel_ints_mk _)
          obtain ⟨E', hE, g1, g2, _, g4⟩ := W
          obtain ⟨ty, sz, es⟩ := r
          simp only at hty hsz
          subst hty hsz
          rw [List.length_map] at g4
          exact ⟨_, E', he, hE.symm, g1, g2, g4⟩
        · cases e
      · cases e
    · cases e
  · simp only [Option.some.injEq, Prod.mk.injEq] at e
    obtain ⟨rfl, rfl⟩ := e
    obtain ⟨u, rfl, hu⟩ := lrel_one ra
    cases hu
    exact Calls.mono (Tryz.slices_Compact_int_empty none 0 E.w) fun e w' ⟨he, hw⟩ => ⟨_, E, he, hw, s, Stp.refl _ _, .nilS⟩
  · simp only [Option.some.injEq, Prod.mk.injEq] at e
    obtain ⟨rfl, rfl⟩ := e
    obtain ⟨u, rfl, hu⟩ := lrel_one ra
    have hu' := hu
    cases hu with
    | imm x es sz a c us hsz hl hc hO hcap hx hm hv =>
    exact Calls.mono (Tryz.slices_Compact_int_empty (some a) c E.w) fun e w' ⟨he, hw⟩ => ⟨_, E, he, hw, s, Stp.refl _ _, hu'⟩
  · cases e

theorem good : Good XX := by
  refine ⟨fun f hf => ?_, by simp [XX], by simp [XX], ?_⟩
  · simp [XX, hf.1, hf.2]
  · funext f
    show ((XX f).isNone && (pk XX).fz f) = stl f
    unfold XX
    by_cases h1 : f = 123
    · subst h1; simp [stl]
    by_cases h2 : f = 124
    · subst h2; simp [stl]
    simp [h1, h2, stl, pk, Bool.and_comm, Bool.and_left_comm, Bool.and_assoc]

theorem pk_ok : PkOk (pk XX) := by
  refine ⟨teOf_ok _, by kernel_rfl, fun f fn hf => ?_, fun f sem hs args h v h' he => ?_⟩
  · have ha : (Tryz.prog.funcs.all fun fn => !(fn.name == "runtime.NumGoroutine")) = true := by kernel_rfl
    rw [Array.all_eq_true] at ha
    obtain ⟨hlt, rfl⟩ := Array.getElem?_eq_some_iff.1 hf
    have := ha f hlt
    show ((Tryz.prog.funcs[f]'hlt).name == "runtime.NumGoroutine") = false
    simpa using this
  · have hs : XX f = some sem := hs
    unfold XX at hs
    split at hs
    · rename_i e
      subst e
      obtain rfl := Option.some.inj hs
      exact ⟨⟨_, Tryz.func123, by kernel_rfl, by kernel_rfl⟩, sort_ok he⟩
    · split at hs
      · rename_i e
        subst e
        obtain rfl := Option.some.inj hs
        exact ⟨⟨_, Tryz.func124, by kernel_rfl, by kernel_rfl⟩, comp_ok he⟩
      · cases hs
end Go.Proofs.Ev
end
section
/- A world that comes in. -/
set_option maxHeartbeats 4000000
set_option maxRecDepth 100000
set_option linter.unusedVariables false
set_option linter.unusedSimpArgs false
namespace Go.Proofs.Ev
open Go Go.RowKit

abbrev shI : Sh := .int .i64
abbrev shLink : Sh := .st [shI, shI]
abbrev shProbe : Sh := .st [shI, shI, .sl shI]
abbrev shSeen : Sh := .st [shI, shI, shI, shI, .bool]
abbrev shNet : Sh := .st [shI, .sl shLink]
abbrev shBucket : Sh := .st [shI, shI, shI, shI]
abbrev shWorld : Sh := .st [shNet, .sl shI, .sl shI, .sl shProbe, .sl shI, .sl shI, shBucket, .sl shSeen, shI]

theorem FitsL_cons (s : Sh) (fs : List Sh) (c : List AV) : FitsL (s :: fs) c = ∃ a b, c = a ++ b ∧ FitsS s a ∧ FitsL fs b := by rw [FitsL]
theorem FitsL_nil (c : List AV) : FitsL [] c = (c = []) := by rw [FitsL]
theorem FitsS_st (fs : List Sh) (c : List AV) : FitsS (.st fs) c = FitsL fs c := by rw [FitsS]
theorem fits_int {a : List AV} (h : FitsS shI a) : ∃ m, a = [I m] ∧ -2 ^ 63 ≤ m ∧ m < 2 ^ 63 := by
  simp only [FitsS] at h
  obtain ⟨m, rfl, hw⟩ := h
  refine ⟨m, rfl, ?_⟩
  simp [Lit.wf, IntKind.min, IntKind.max, IntKind.signed, IntKind.bits] at hw
  omega
theorem max_len : maxLen = 9223372036854775807 := by decide
theorem fits_ints {a : List AV} (h : FitsS (.sl shI) a) : ∃ (v : AV) (l : List Int), a = [v] ∧ SVI v l ∧ l.length ≤ 9223372036854775807 := by
  simp only [FitsS] at h
  obtain ⟨v, es, rfl, hs, hl, hc⟩ := h
  obtain ⟨l, rfl, _⟩ := map_ex (fun n : Int => [I n]) (fun _ => True) es (fun c hcm => by
    obtain ⟨m, rfl, _⟩ := hc c hcm
    exact ⟨m, rfl, trivial⟩)
  rw [max_len, List.length_map] at hl
  exact ⟨v, l, rfl, hs, hl⟩
theorem fits_links {a : List AV} (h : FitsS (.sl shLink) a) : ∃ (v : AV) (l : List (Int × Int)), a = [v] ∧ SV v (l.map lk) ∧ l.length ≤ 9223372036854775807 := by
  simp only [FitsS, FitsL] at h
  obtain ⟨v, es, rfl, hs, hl, hc⟩ := h
  obtain ⟨l, rfl, _⟩ := map_ex lk (fun _ => True) es (fun c hcm => by
    obtain ⟨_, _, rfl, ⟨m, rfl, _⟩, _, _, rfl, ⟨k, rfl, _⟩, rfl⟩ := hc c hcm
    exact ⟨(m, k), rfl, trivial⟩)
  rw [max_len, List.length_map] at hl
  exact ⟨v, l, rfl, hs, hl⟩
theorem fits_seens {a : List AV} (h : FitsS (.sl shSeen) a) : ∃ (v : AV) (l : List Sn), a = [v] ∧ SV v (l.map snc) ∧ l.length ≤ 9223372036854775807 := by
  simp only [FitsS, FitsL] at h
  obtain ⟨v, es, rfl, hs, hl, hc⟩ := h
  obtain ⟨l, rfl, _⟩ := map_ex snc (fun _ => True) es (fun c hcm => by
    obtain ⟨_, _, rfl, ⟨m, rfl, _⟩, _, _, rfl, ⟨k, rfl, _⟩, _, _, rfl, ⟨t, rfl, _⟩, _, _, rfl, ⟨d, rfl, _⟩, _, _, rfl, ⟨b, rfl⟩, rfl⟩ := hc c hcm
    exact ⟨⟨m, k, t, d, b⟩, rfl, trivial⟩)
  rw [max_len, List.length_map] at hl
  exact ⟨v, l, rfl, hs, hl⟩
theorem fits_probes {a : List AV} (h : FitsS (.sl shProbe) a) : ∃ (v : AV) (l : List Prb), a = [v] ∧ SV v (l.map prc) ∧ l.length ≤ 9223372036854775807 ∧ ∀ p ∈ l, SVI p.v p.path ∧ p.path.length ≤ 9223372036854775807 := by
  rw [FitsS] at h
  obtain ⟨v, es, rfl, hs, hl, hc⟩ := h
  obtain ⟨l, rfl, hp⟩ := map_ex prc (fun p => SVI p.v p.path ∧ p.path.length ≤ 9223372036854775807) es (fun c hcm => by
    have h1 := hc c hcm
    simp only [FitsS_st, FitsL_cons, FitsL_nil] at h1
    obtain ⟨_, _, rfl, h2, _, _, rfl, h3, _, _, rfl, h4, rfl⟩ := h1
    obtain ⟨m, rfl, _⟩ := fits_int h2
    obtain ⟨k, rfl, _⟩ := fits_int h3
    obtain ⟨pv, pl, rfl, h5, h6⟩ := fits_ints h4
    exact ⟨⟨m, k, pv, pl⟩, rfl, h5, h6⟩)
  rw [max_len, List.length_map] at hl
  exact ⟨v, l, rfl, hs, hl, hp⟩

theorem world_of {a : List AV} (h : FitsS shWorld a) : ∃ w v, a = wcs w v ∧ WRaw w v := by
  simp only [FitsS_st, FitsL_cons, FitsL_nil] at h
  obtain ⟨_, _, rfl, h1, _, _, rfl, h2, _, _, rfl, h3, _, _, rfl, h4, _, _, rfl, h5, _, _, rfl, h6, _, _, rfl, h7, _, _, rfl, h8, _, _, rfl, h9, rfl⟩ := h
  obtain ⟨_, _, rfl, h10, _, _, rfl, h11, rfl⟩ := h1
  obtain ⟨n, rfl, bn⟩ := fits_int h10
  obtain ⟨vl, ll, rfl, sl, bl⟩ := fits_links h11
  obtain ⟨vd, ld, rfl, sd, bd⟩ := fits_ints h2
  obtain ⟨vdn, ldn, rfl, sdn, bdn⟩ := fits_ints h3
  obtain ⟨vp, lp, rfl, sp, bp, pp⟩ := fits_probes h4
  obtain ⟨vo, lo, rfl, so, bo⟩ := fits_ints h5
  obtain ⟨vli, lli, rfl, sli, bli⟩ := fits_ints h6
  obtain ⟨_, _, rfl, h71, _, _, rfl, h72, _, _, rfl, h73, _, _, rfl, h74, rfl⟩ := h7
  obtain ⟨b1, rfl, _⟩ := fits_int h71
  obtain ⟨b2, rfl, _⟩ := fits_int h72
  obtain ⟨b3, rfl, _⟩ := fits_int h73
  obtain ⟨b4, rfl, _⟩ := fits_int h74
  obtain ⟨vs, ls, rfl, ss, bs⟩ := fits_seens h8
  obtain ⟨now, rfl, _⟩ := fits_int h9
  exact ⟨⟨n, ll, ld, ldn, lp, lo, lli, b1, b2, b3, b4, ls, now⟩, ⟨vl, vd, vdn, vp, vo, vli, vs⟩, rfl, ⟨sl, sd, sdn, sp, pp, so, sli, ss, bl, bd, bdn, bp, bo, bli, bs, bn⟩⟩

theorem shp_World : shp Tryz.prog 6 31 = some shWorld := by kernel_rfl

/-- A world as an argument. -/
theorem in_world {H : Type} {enc : TypeId × Value → H} {sp : Nat → Bool} {held : Bool} {base : Nat} {W : World} {v0 : Value} {d : DataW H} {ps : List MemPlace} {r : Reach} {b0 : Nat}
    (hval : Value.okWide Tryz.prog W r b0 31 v0) (h : DataW.Trod enc Tryz.prog W base sp held 31 v0 d ps) :
    ∃ w v, VRel ⟨W, fun _ => False, fun _ => default, 0⟩ (.agg (wcs w v)) v0 ∧ WRaw w v := by
  obtain ⟨cs, rfl⟩ : ∃ cs, v0 = .agg cs := by
    unfold Value.okWide at hval
    rw [Tryz.underlying31] at hval
    obtain ⟨cs, rfl, _⟩ := hval
    exact ⟨cs, rfl⟩
  obtain ⟨fuel, ht⟩ := h
  obtain ⟨a, ha, hf⟩ := open_any (E := ⟨W, fun _ => False, fun _ => default, 0⟩) (fun _ h => h) 6 _ _ fuel _ _ shp_World ht
  obtain ⟨w, v, rfl, hw⟩ := world_of hf
  have e : (Value.agg cs).cells = cs := rfl
  rw [e] at ha
  have := VRel.agg _ _ ha.1 ha.2
  exact ⟨w, v, by simpa using this, hw⟩
end Go.Proofs.Ev
end
