/- A select of one case with a default inside the walk of an ordinary call: the walk's rules at frames of the kind 'normal', and the select's three ways. -/
import Derived.WalkKit
import Derived.Conc.LoneSelectN
namespace Go.Proofs.Ytjlmbmamkhneiaa
open Go Go.RowKit Go.Conc

/-- 'Code.wp' at ordinary calls alone. -/
def wpN (P : Program) (c : Code) (Q : Exit → Act → World → Prop) (a : Act) (w : World) : Prop :=
  ∀ (b : Frame) (k : List Item) (cs : List Frame), b.kind = .normal →
    ∃ e a' w', Q e a' w' ∧ Arrives P (lone (b.at a (.code c :: k)) cs w) b k cs e a' w'
section
variable {P : Program} {Q : Exit → Act → World → Prop} {a : Act} {w : World}
theorem wpN_of_wp {c : Code} (h : c.wp P Q a w) : wpN P c Q a w := fun b k cs _ => h b k cs
theorem wpN_seq {x y : Code} (h : wpN P x (Exit.then (wpN P y Q) Q) a w) : wpN P (Code.seq x y) Q a w := by
  intro b k cs hk
  obtain ⟨e, a₁, w₁, hq, harr⟩ := h b (.code y :: k) cs hk
  cases e with
  | normal =>
    obtain ⟨e₂, a₂, w₂, hq₂, harr₂⟩ := hq b k cs hk
    exact ⟨e₂, a₂, w₂, hq₂, .of_steps (.head step_seq harr) harr₂⟩
  | exit id => exact ⟨_, a₁, w₁, hq, .of_steps (.one step_seq) (.pass (x := .code y) rfl (fun _ _ => .inl (by simp)) harr)⟩
  | goto l => exact ⟨_, a₁, w₁, hq, .of_steps (.one step_seq) (.pass (x := .code y) rfl (fun _ _ => .inl (by simp)) harr)⟩
  | ret => exact ⟨_, a₁, w₁, hq, .of_steps (.one step_seq) (.pass (x := .code y) rfl (fun _ _ => .inl (by simp)) harr)⟩
  | panic ch => exact ⟨_, a₁, w₁, hq, .of_steps (.one step_seq) (.pass (x := .code y) rfl (fun _ _ => .inl (by simp)) harr)⟩
  | outgrown => exact ⟨_, a₁, w₁, hq, .of_steps (.one step_seq) (.pass (x := .code y) rfl (fun _ _ => .inl (by simp)) harr)⟩
theorem calls_of_wpN {f : FuncId} {fn : Func} {c : Code} {args : Array Value} {R : Ending → World → Prop}
    (hf : P.funcs[f]? = some fn) (hb : fn.body = some c)
    (h : wpN P c (bodyPost P fn R) { tmps := args ++ Array.replicate (fn.ntmps - args.size) undef, defers := [] } w) :
    Calls P f args w R := by
  intro cs
  let b : Frame := { (default : Frame) with fn := f, kind := .normal }
  have henter : Frame.enter P f args .normal =
      b.at { tmps := args ++ Array.replicate (fn.ntmps - args.size) undef, defers := [] } [.code c] := by
    simp [Frame.enter, Frame.at, hf, hb, b]
  obtain ⟨e, a', w', hq, harr⟩ := h b [] cs rfl
  rw [← henter] at harr
  cases e with
  | normal =>
    obtain ⟨hd, v, hr, hR⟩ := hq
    exact ⟨.returned v, w', _, hR, Steps.trans harr (.one step_end), rfl, rfl, hd, rfl, fn, hf, hr⟩
  | ret =>
    obtain ⟨hd, v, hr, hR⟩ := hq
    obtain ⟨todo, hs⟩ := harr
    exact ⟨.returned v, w', _, hR, hs, rfl, rfl, hd, rfl, fn, hf, hr⟩
  | panic chain =>
    obtain ⟨hd, hR⟩ := hq
    obtain ⟨todo, hs⟩ := harr
    exact ⟨.panicked chain, w', _, hR, hs, rfl, rfl, hd, fn, hf⟩
  | exit id => exact hq.elim
  | goto l => exact hq.elim
  | outgrown => exact ⟨.outgrown, w', b, hq, harr.resolve_left (by simp [b]), rfl, trivial⟩

/-- A region whose first operation is a communication that the machine carries out in one step. -/
theorem wpN_comm {id : Nat} {o : Oper} {l : List Oper} {v : Value} {w1 : World}
    (hs : ∀ (b : Frame) (k : List Item) (cs : List Frame) (rest : List Nat), b.kind = .normal →
      step P (lone (b.at a (.inRegion (o :: l).toArray (0 :: rest) :: k)) cs w) = .next (lone ((b.at a (.inRegion (o :: l).toArray (0 :: rest) :: k)).finish v) cs w1))
    (h : wpList P (o :: l).toArray Q l (a.put o.dst v) w1) : wpN P (Code.region id (o :: l).toArray false) Q a w := by
  intro b k cs hk
  have h' : wpOps P (o :: l).toArray Q (List.range' 1 l.length) (a.put o.dst v) w1 := by
    rw [wpOps_eq_wpList l 1 (fun j => by simp [Nat.add_comm 1 j])]; exact h
  obtain ⟨e, a', w', hq, harr⟩ := wp_ops _ _ _ h' b k cs
  refine ⟨e, a', w', hq, .of_steps (.head step_region (.one ?_)) harr⟩
  have hr : List.range (o :: l).toArray.size = 0 :: List.range' 1 l.length := by
    rw [List.size_toArray, List.length_cons, List.range_eq_range', List.range'_succ]
  rw [hr, hs b k cs _ hk, Frame.finish_at]
  rfl
end
theorem commRes_send (c : Nat) (v z u : Value) : commResult #[scase c v z] .select ((0 : Nat) : Int) u false = .tuple #[goInt 0, .bool false] := by
  simp [commResult, scase, List.zipIdx_cons]
theorem commRes_send_default (c : Nat) (v z u : Value) : commResult #[scase c v z] .select (-1) u false = .tuple #[goInt (-1), .bool false] := by
  simp [commResult, scase, List.zipIdx_cons]
theorem commRes_recv (c : Nat) (z u : Value) : commResult #[rcase c z] .select ((0 : Nat) : Int) u true = .tuple #[goInt 0, .bool true, u] := by
  simp [commResult, rcase, List.zipIdx_cons]
theorem commRes_recv_default (c : Nat) (z u : Value) : commResult #[rcase c z] .select (-1) u false = .tuple #[goInt (-1), .bool false, z] := by
  simp [commResult, rcase, List.zipIdx_cons]

section
variable {P : Program} {Q : Exit → Act → World → Prop} {a : Act} {w : World} {id d : Nat} {o : Oper} {l : List Oper} {ch x : Operand} {e : TypeId} {i : TypeInfo} {z v : Value} {c cap s r : Nat} {buf : Array Value}
theorem run_sel_send (ho : o.op = .select #[{ chan := ch, send := some x, elem := e }] false) (hi : P.info? e = some i) (hz : i.zero = some z) (hc : a.eval ch = .chan (some c)) (hx : a.eval x = v) :
    (execOp a.eval o).run P w = .ok (.comm #[scase c v z] false .select) w := by
  unfold execOp
  simp [ho, zeroValue, typeInfo, hi, hz, hc, hx, scase]
theorem run_sel_recv (ho : o.op = .select #[{ chan := ch, send := none, elem := e }] false) (hi : P.info? e = some i) (hz : i.zero = some z) (hc : a.eval ch = .chan (some c)) :
    (execOp a.eval o).run P w = .ok (.comm #[rcase c z] false .select) w := by
  unfold execOp
  simp [ho, zeroValue, typeInfo, hi, hz, hc, rcase]
theorem wpN_send_room (hg : o.guard = none) (ho : o.op = .select #[{ chan := ch, send := some x, elem := e }] false) (hi : P.info? e = some i) (hz : i.zero = some z) (hc : a.eval ch = .chan (some c)) (hx : a.eval x = v)
    (hb : w.heap[c]? = some (.chan cap buf false s r false)) (hroom : buf.size < cap)
    (h : wpList P (o :: l).toArray Q l (a.put o.dst (.tuple #[goInt 0, .bool false])) (w.setChan c cap (buf.push v) false (s + 1) r false)) : wpN P (Code.region id (o :: l).toArray false) Q a w := by
  refine wpN_comm (fun b k cs rest hk => ?_) h
  have := step_lone_sel_send_room (cs := cs) (k := 0) (c := c) (v := v) (z := z) (cap := cap) (buf := buf) (s := s) (r := r) (tm := false)
    (stepG_comm (b := b) (k := k) (rest := rest) (main := true) (ops := (o :: l).toArray) (i := 0) (o := o) (by simp) (by simp [Region.wanted, hg]) (by rw [hk]; decide) (run_sel_send ho hi hz hc hx)) rfl
    (fun m c' hm hc' => by rcases m with _ | m; exact absurd rfl hm; simp at hc') hb hroom
  rw [commRes_send] at this
  exact this
theorem wpN_send_full (hg : o.guard = none) (ho : o.op = .select #[{ chan := ch, send := some x, elem := e }] false) (hi : P.info? e = some i) (hz : i.zero = some z) (hc : a.eval ch = .chan (some c)) (hx : a.eval x = v)
    (hb : w.heap[c]? = some (.chan cap buf false s r false)) (hfull : cap ≤ buf.size)
    (h : wpList P (o :: l).toArray Q l (a.put o.dst (.tuple #[goInt (-1), .bool false])) w) : wpN P (Code.region id (o :: l).toArray false) Q a w := by
  refine wpN_comm (fun b k cs rest hk => ?_) h
  have := step_lone_sel_default (cs := cs)
    (stepG_comm (b := b) (k := k) (rest := rest) (main := true) (ops := (o :: l).toArray) (i := 0) (o := o) (by simp) (by simp [Region.wanted, hg]) (by rw [hk]; decide) (run_sel_send (w := w) ho hi hz hc hx))
    (fun cc hcc => by simp at hcc; subst hcc; exact noWay_send hb hfull)
  rw [commRes_send_default] at this
  exact this
theorem wpN_recv_some (hg : o.guard = none) (ho : o.op = .select #[{ chan := ch, send := none, elem := e }] false) (hi : P.info? e = some i) (hz : i.zero = some z) (hc : a.eval ch = .chan (some c))
    (hb : w.heap[c]? = some (.chan cap buf false s r false)) (hsome : 0 < buf.size)
    (h : wpList P (o :: l).toArray Q l (a.put o.dst (.tuple #[goInt 0, .bool true, buf.getD 0 undef])) (w.setChan c cap (buf.extract 1 buf.size) false s (r + 1) false)) : wpN P (Code.region id (o :: l).toArray false) Q a w := by
  refine wpN_comm (fun b k cs rest hk => ?_) h
  have := step_lone_sel_recv_buf (cs := cs) (k := 0) (c := c) (z := z) (cap := cap) (buf := buf) (s := s) (r := r) (tm := false)
    (stepG_comm (b := b) (k := k) (rest := rest) (main := true) (ops := (o :: l).toArray) (i := 0) (o := o) (by simp) (by simp [Region.wanted, hg]) (by rw [hk]; decide) (run_sel_recv ho hi hz hc)) rfl
    (fun m c' hm hc' => by rcases m with _ | m; exact absurd rfl hm; simp at hc') hb hsome
  rw [commRes_recv] at this
  exact this
theorem wpN_recv_none (hg : o.guard = none) (ho : o.op = .select #[{ chan := ch, send := none, elem := e }] false) (hi : P.info? e = some i) (hz : i.zero = some z) (hc : a.eval ch = .chan (some c))
    (hb : w.heap[c]? = some (.chan cap #[] false s r false))
    (h : wpList P (o :: l).toArray Q l (a.put o.dst (.tuple #[goInt (-1), .bool false, z])) w) : wpN P (Code.region id (o :: l).toArray false) Q a w := by
  refine wpN_comm (fun b k cs rest hk => ?_) h
  have := step_lone_sel_default (cs := cs)
    (stepG_comm (b := b) (k := k) (rest := rest) (main := true) (ops := (o :: l).toArray) (i := 0) (o := o) (by simp) (by simp [Region.wanted, hg]) (by rw [hk]; decide) (run_sel_recv (w := w) ho hi hz hc))
    (fun cc hcc => by simp at hcc; subst hcc; exact noWay_recv hb)
  rw [commRes_recv_default] at this
  exact this
end
end Go.Proofs.Ytjlmbmamkhneiaa
