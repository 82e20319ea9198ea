/- 'append(x, make([]T, m)...)' onto a row of the run's own, elements of one cell. -/
import Derived.Test.YtjlmbmamkhneiaaRof
import Derived.Lib.AppendZeros
namespace Go.Proofs.Ytjlmbmamkhneiaa
open Go Go.RowKit
set_option linter.unusedVariables false
variable {P : Program}
theorem zeroCells_one (x : Value) (n : Nat) : Builtin.zeroCells #[x] n = Array.replicate n x := by
  apply Array.ext'
  apply List.ext_getElem?
  intro j
  by_cases hj : j < n <;> simp [Builtin.zeroCells, hj, Nat.mod_one]
theorem run_append_zeros (w : World) (base : Nat) (t tn ty e : TypeId) (i : TypeInfo) (z : Value) (zv : Value) (kn : IntKind) (ht : P.underlying t = some (.slice e)) (htn : P.underlying tn = some (.int kn)) (hi : P.info? e = some i) (hz : i.zero = some z)
    (hs : i.size = 1) (hb : i.bytes = 1) (hzc : z.cells = #[zv]) (h1 : zv.oneCell' = true) (g n cap : Nat) (xs : List Value) (hown : w.ownsRow base e 1 (.slice (some ⟨g, 0, none⟩) n cap) n xs) (m : Nat) (hnm : n + m ≤ 1048576) (hbase : base ≤ w.heap.size) :
    ∃ v' w', (Builtin.append_ #[t, tn] ty #[.slice (some ⟨g, 0, none⟩) n cap, .int .i64 (m : Int)]).run P w = .ok v' w' ∧ w'.ownsRow base e 1 v' (xs ++ List.replicate m zv).length (xs ++ List.replicate m zv) ∧ w.grownBy w' (some g) := by
  have hlen : (xs ++ List.replicate m zv).length = n + m := by rw [List.length_append, hown.1]; simp
  have hw : IntKind.i64.wrap (m : Int) = m := by rw [IntKind.wrap_i64]; omega
  have hneg : ¬ ((m : Int) < 0) := by omega
  have h48i : ¬ (281474976710656 < (m : Int) * (i.bytes : Int)) := by rw [hb]; omega
  rw [hlen]
  rcases hown.2 with ⟨h', _⟩ | ⟨g', cap', cur, h', hbg, hg, hnc, hcm, hcs, htake⟩
  · simp at h'
  · simp only [Value.slice.injEq, Option.some.injEq, Addr.mk.injEq, and_true, true_and] at h'
    obtain ⟨rfl, rfl⟩ := h'
    have hm0 : ∀ w : World, (if m * i.size = 0 then (pure #[] : Sem (Array Value)) else do pure (Builtin.zeroCells (← zeroValue e).cells m)).run P w = .ok (Array.replicate m zv) w := by
      intro w
      by_cases hmz : m * i.size = 0
      · rw [if_pos hmz]
        have : m = 0 := by rw [hs] at hmz; omega
        subst this
        simp
      · rw [if_neg hmz]
        simp [zeroValue, typeInfo, hi, hz, hzc, zeroCells_one]
    by_cases hroom : n + m ≤ cap
    · have hst := run_storeCells_at P g (n * i.size) e (List.replicate m zv) 0 cur w hg (by rw [hs]; simp; rw [Nat.mul_one] at hcs; omega) (by intro u hu; rw [List.eq_of_mem_replicate hu]; exact h1)
      simp only [Nat.add_zero] at hst
      refine ⟨.slice (some ⟨g, 0, none⟩) (n + m) cap, w.setRow g (cur.toList.take (n * i.size) ++ List.replicate m zv ++ cur.toList.drop (n * i.size + (List.replicate m zv).length)).toArray, ?_, ⟨by rw [hlen, Nat.mul_one], .inr ⟨g, cap, _, rfl, hbg, setRow_heap w g cur _ e _ hg, hroom, hcm, ?_, ?_⟩⟩, ⟨rfl, rfl, rfl, by simp, fun k _ hk => setRow_other w g k _ (fun e => hk (by rw [e]))⟩⟩
      · simp [Builtin.append_, run_underlying ht, run_underlying htn, sizeOf, typeInfo, hi, asInt, asIntOf, hw, hneg, h48i, hroom, Addr.add_lit]
        by_cases hmz : m * i.size = 0
        · have hm : m = 0 := by rw [hs] at hmz; omega
          subst hm
          rw [if_pos hmz]
          simp only [List.replicate_zero, List.append_nil, List.length_nil, Nat.add_zero] at hst
          rw [hst]
          simp
        · rw [if_neg hmz]
          have hzv : (zeroValue e).run P w = .ok z w := by simp [zeroValue, typeInfo, hi, hz]
          rw [hzv]
          simp only [Result.andThen_ok, hzc, zeroCells_one, Array.toList_replicate]
          rw [hst]
          simp
      · simp [hcs, hs]; omega
      · rw [hs, htake, Nat.mul_one, ← hlen]; exact List.take_left
    · have hge := grownCap_ge w (n + m) cap e
      have hcm2 : grownCap w (n + m) cap e ≤ maxLen := grownCap_le_maxLen w (n + m) cap e (by unfold maxLen; omega)
      have holds : ∀ j u, xs[j]? = some u → w.cell? ((⟨g, 0, none⟩ : Addr).add j) = some u := hown.cells (g := g) rfl
      have hfo := run_firstCells_some (P := P) w.drew i.size n ⟨g, 0, none⟩ n cap xs (by rw [hs, Nat.mul_one]; have := hown.1; omega) (by simpa using holds)
      have h63' : ¬ (9223372036854775807 < ((n : Int) + (m : Int))) := by omega
      have h48' : ¬ (281474976710656 < Builtin.nextslicecap (n + m) cap * i.bytes) := by
        have := growslice_fits (bytes := i.bytes) (need := n + m) (old := cap) (by omega) (by rw [hb]; omega)
        omega
      have hmz : ¬ m * i.size = 0 := by rw [hs]; omega
      refine ⟨.slice (some ⟨w.heap.size, 0, none⟩) (n + m) (grownCap w (n + m) cap e), w.drew.alloc (.cells (xs.toArray ++ (List.replicate m zv).toArray ++ Builtin.zeroCells z.cells (grownCap w (n + m) cap e - (n + m))) e), ?_, ⟨by rw [hlen, Nat.mul_one], .inr ⟨w.heap.size, _, _, rfl, hbase, heap_alloc_new w.drew _, hge, hcm2, ?_, ?_⟩⟩, ⟨rfl, rfl, rfl, by simp, fun k hk _ => Below.heap_alloc w.drew _ k hk⟩⟩
      · simp [Builtin.append_, run_underlying ht, run_underlying htn, sizeOf, typeInfo, hi, asInt, asIntOf, hw, hneg, h48i, hroom, h63', h48', Question.forced, hfo, newRow, grownCap, zeroValue, hz, hmz, Builtin.lenOf]
        simp only [hzc, zeroCells_one]
      · simp only [Array.size_append, List.size_toArray, size_zeroCells, hzc, List.length_replicate]
        have := hown.1
        simp; omega
      · simp only [Array.toList_append, List.append_assoc]
        rw [← List.append_assoc, Nat.mul_one, ← hlen]
        exact List.take_left
/-- .. onto nil too, if something is appended. -/
theorem run_append_zeros_any (w : World) (base : Nat) (t tn ty e : TypeId) (i : TypeInfo) (z : Value) (zv : Value) (kn : IntKind) (ht : P.underlying t = some (.slice e)) (htn : P.underlying tn = some (.int kn)) (hi : P.info? e = some i) (hz : i.zero = some z)
    (hs : i.size = 1) (hb : i.bytes = 1) (hzc : z.cells = #[zv]) (h1 : zv.oneCell' = true) (v : Value) (n : Nat) (xs : List Value) (hown : w.ownsRow base e 1 v n xs) (m : Nat) (hm : n = 0 → 0 < m) (hnm : n + m ≤ 1048576) (hbase : base ≤ w.heap.size) :
    ∃ v' w', (Builtin.append_ #[t, tn] ty #[v, .int .i64 (m : Int)]).run P w = .ok v' w' ∧ w'.ownsRow base e 1 v' (xs ++ List.replicate m zv).length (xs ++ List.replicate m zv) ∧ w.grownBy w' v.ownBlock := by
  rcases hown.2 with ⟨rfl, rfl⟩ | ⟨g, cap, cur, rfl, _⟩
  · have hx : xs = [] := List.eq_nil_of_length_eq_zero (by simpa using hown.1)
    subst hx
    have hm0 := hm rfl
    have hr := Lib.run_append_nil_zeros (P := P) w t tn ty e i z .i64 kn ht htn hi hz m hm0 (by omega) (by omega) (by rw [hb]; omega)
    have hge := grownCap_ge w m 0 e
    refine ⟨_, _, hr, ⟨by simp, .inr ⟨w.heap.size, _, _, by simp, hbase, heap_alloc_new w.drew _, by simpa using hge, grownCap_le_maxLen w m 0 e (by unfold maxLen; omega), ?_, ?_⟩⟩, ⟨rfl, rfl, rfl, by simp, fun k hk _ => Below.heap_alloc w.drew _ k hk⟩⟩
    · simp [zeroCells_one, hzc]; omega
    · simp [zeroCells_one, hzc]
  · exact run_append_zeros w base t tn ty e i z zv kn ht htn hi hz hs hb hzc h1 g n cap xs hown m hnm hbase
theorem step_append_zeros {ops : Array Oper} {o : Oper} {a : Act} {w : World} {K : Act → World → Prop} {Q : Exit → Act → World → Prop} {E : Prop} (hgd : o.guard = none) (s x : Operand) (t tn : TypeId)
    (ho : o.op = .call { callee := .builtin .append, args := #[s, x], argTypes := #[t, tn] }) (base : Nat) (e : TypeId) (i : TypeInfo) (z : Value) (zv : Value) (kn : IntKind) (ht : P.underlying t = some (.slice e)) (htn : P.underlying tn = some (.int kn)) (hi : P.info? e = some i) (hz : i.zero = some z)
    (hs : i.size = 1) (hb : i.bytes = 1) (hzc : z.cells = #[zv]) (h1 : zv.oneCell' = true) (v : Value) (n : Nat) (xs : List Value) (hsv : a.eval s = v) (hown : w.ownsRow base e 1 v n xs) (m : Nat) (hm : n = 0 → 0 < m) (zi : Int) (hxv : a.eval x = .int .i64 zi) (hzi : zi = (m : Int)) (hnm : n + m ≤ 1048576) (hbase : base ≤ w.heap.size)
    (h : ∀ v' w', w'.ownsRow base e 1 v' (xs ++ List.replicate m zv).length (xs ++ List.replicate m zv) → w.grownBy w' v.ownBlock → K (a.put o.dst v') w') :
    if Region.wanted o (yielded ops a.tmps) = true then Oper.wp P o a w K Q else E := by
  have hw : Region.wanted o (yielded ops a.tmps) = true := by simp [Region.wanted, hgd]
  rw [if_pos hw]
  obtain ⟨v', w', hrun, h1, h2⟩ := run_append_zeros_any (P := P) w base t tn o.type e i z zv kn ht htn hi hz hs hb hzc h1 v n xs hown m hm hnm hbase
  subst hzi
  unfold Oper.wp
  simp only [execOp, ho, resolve, invoke, builtin, hsv, hxv, hrun, Result.andThen, Sem.run_bind, Sem.run_pure, List.map_toArray, List.map_cons, List.map_nil]
  exact h v' w' h1 h2
end Go.Proofs.Ytjlmbmamkhneiaa
