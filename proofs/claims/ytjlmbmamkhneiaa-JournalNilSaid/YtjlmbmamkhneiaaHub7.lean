/- The law HubTold: its walk. -/
import Derived.Test.YtjlmbmamkhneiaaHub6
namespace Go.Proofs.Ytjlmbmamkhneiaa
open Go Go.RowKit Go.Conc
theorem T24 : SliceTy Try.prog 24 3 (.int .i64 0) 8 := ⟨Try.underlying24, I3⟩
theorem wpl_append_ints {ops : Array Oper} {rest : List Oper} {o : Oper} {a : Act} {w : World} {Q : Exit → Act → World → Prop} (hgd : o.guard = none) (s x : Operand)
    (ho : o.op = .call { callee := .builtin .append, args := #[s, x], argTypes := #[24, 24] }) (base : Nat) (v : Value) (g : List Int) (hs : a.eval s = v)
    (hown : w.ownsRow base 3 1 v g.length (g.map I)) (xv : Value) (hxv : a.eval x = xv) (ys : List Int) (hr : RdI w xv ys) (hlen : g.length + ys.length ≤ 1048576) (hbase : base ≤ w.heap.size)
    (h : ∀ v' w', w'.ownsRow base 3 1 v' (g ++ ys).length ((g ++ ys).map I) → w.grownBy w' v.ownBlock → wpList Try.prog ops Q rest (a.put o.dst v') w') : wpList Try.prog ops Q (o :: rest) a w := by
  refine wpl_append hgd s x 24 ho T24 rfl base v (g.map I) hs (by rw [List.length_map]; exact hown) xv hxv (ys.map I) hr ?_ ?_ ?_ hbase ?_
  · intro u hu; obtain ⟨y, _, rfl⟩ := List.mem_map.1 hu; rfl
  · rw [List.length_map, List.length_map]; omega
  · rw [List.length_map, List.length_map]; unfold maxLen; omega
  · intro v' w' h1 h2
    rw [← List.map_append, List.length_map] at h1
    exact h v' w' h1 h2
theorem own_move {w w' : World} {base : Nat} {e : TypeId} {v : Value} {n : Nat} {xs : List Value} (h : w.ownsRow base e 1 v n xs) (hm : ∀ k, v.ownBlock = some k → base ≤ k → k < w.heap.size → w'.heap[k]? = w.heap[k]?) : w'.ownsRow base e 1 v n xs := by
  refine ⟨h.1, ?_⟩
  rcases h.2 with hn | ⟨g, cap, cur, hv, hg, hh, r⟩
  · exact .inl hn
  · exact .inr ⟨g, cap, cur, hv, hg, (hm g (by rw [hv]; rfl) hg (lt_of_block hh)).trans hh, r⟩
theorem own_base {w : World} {base : Nat} {e : TypeId} {v : Value} {n : Nat} {xs : List Value} (h : w.ownsRow base e 1 v n xs) : ∀ k, v.ownBlock = some k → base ≤ k := by
  intro k hk
  rcases h.2 with ⟨hn, _⟩ | ⟨g, cap, cur, hv, hg, hh, r⟩
  · rw [hn] at hk; cases hk
  · rw [hv] at hk
    have : g = k := by simpa [Value.ownBlock] using hk
    omega
theorem own_chg {S : Nat → Prop} {w w' : World} {base : Nat} {e : TypeId} {v : Value} {n : Nat} {xs : List Value} (h : w.ownsRow base e 1 v n xs) (c : Chg S w w') (hn : ∀ k, S k → k < base) : w'.ownsRow base e 1 v n xs :=
  own_move h fun k _ hb hlt => c.block k hlt (fun e => by have := hn k e; omega)
structure Told (ls : List Int) (i : Nat) (g : List Int) (t0 t1 : TapS) : Prop where
  sub : (g ++ t0.buf).Sublist (ls.take i)
  len0 : g.length + t0.buf.length + t0.missed = i
  len1 : t1.buf.length + t1.missed = i
  op : t0.op = true ∧ t1.op = true
theorem Told.post {ls : List Int} {i : Nat} {g : List Int} {t0 t1 : TapS} (h : Told ls i g t0 t1) (R : Nat) (hi : i < ls.length) : Told ls (i + 1) g (t0.tell R ls[i]) (t1.tell R ls[i]) := by
  obtain ⟨o0, b0, m0⟩ := t0
  obtain ⟨o1, b1, m1⟩ := t1
  obtain ⟨h1, h2, h3, h4, h5⟩ := h
  simp only at h1 h2 h3 h4 h5
  subst h4 h5
  refine ⟨?_, ?_, ?_, ?_⟩
  · rw [take_snoc hi]
    simp only [TapS.tell, if_true]
    split
    · rw [← List.append_assoc]; exact h1.append (List.Sublist.refl _)
    · exact h1.trans (List.sublist_append_left _ _)
  · simp only [TapS.tell, if_true]; split <;> simp <;> omega
  · simp only [TapS.tell, if_true]; split <;> simp <;> omega
  · simp only [TapS.tell, if_true]; constructor <;> split <;> rfl
theorem Told.take {ls : List Int} {i : Nat} {g : List Int} {t0 t1 : TapS} (h : Told ls i g t0 t1) (hb : t0.buf.isEmpty = false) : Told ls i (g ++ [t0.buf.headD 0]) t0.took t1 := by
  obtain ⟨o0, b0, m0⟩ := t0
  cases b0 with
  | nil => simp at hb
  | cons x b =>
    obtain ⟨h1, h2, h3, h4⟩ := h
    refine ⟨by simpa [TapS.took] using h1, by simp [TapS.took] at h2 ⊢; omega, h3, h4⟩
theorem Told.le {ls : List Int} {i : Nat} {g : List Int} {t0 t1 : TapS} (h : Told ls i g t0 t1) : g.length ≤ i ∧ t0.buf.length ≤ i ∧ t0.missed ≤ i ∧ t1.missed ≤ i ∧ t1.buf.length ≤ i := by
  have := h.len0; have := h.len1; omega
theorem take_two (t0 t1 : TapS) (R : Nat) : HubS.take ⟨[t0, t1], R⟩ 0 = if t0.buf.isEmpty = true then (⟨[t0, t1], R⟩, 0, false) else (⟨[t0.took, t1], R⟩, t0.buf.headD 0, true) := rfl
theorem low_two {ls : List Int} {i : Nat} {g : List Int} {t0 t1 : TapS} (h : Told ls i g t0 t1) (R : Nat) : HubS.low ⟨[t0, t1], R⟩ i := by
  intro t ht
  have := h.le
  simp at ht
  rcases ht with e | e <;> rw [e] <;> omega
theorem sub_step {w x : Int} {xs ys : List Int} (h : (w :: xs).Sublist (x :: ys)) : if x = w then xs.Sublist ys else (w :: xs).Sublist ys := by
  split
  · rename_i e; rw [e] at h; exact List.cons_sublist_cons.1 h
  · rename_i e
    cases h with
    | cons _ h => exact h
    | cons_cons _ h => exact absurd rfl e
theorem hub_grown {w w' : World} {base h : Nat} {v gv : Value} {l : List (Nat × Nat)} {H : HubS} {n : Nat} {xs : List Value} {o : Obj} (a : HubAt w h v l H) (hown : w.ownsRow base 3 1 gv n xs) (hg : (w.alloc o).grownBy w' gv.ownBlock) (hb : ∀ k, HubB h v l k → k < base) : HubAt w' h v l H :=
  (a.alloc o).chg (S := fun k => base ≤ k) ((Chg.refl _ _).grown hg (fun k hk _ => own_base hown k hk)) (fun k hk _ e => by have := hb k hk; omega)
theorem chg_grown {w0 w w' : World} {base : Nat} {gv : Value} {n : Nat} {xs : List Value} {o : Obj} (c : Chg (fun _ => False) w0 w) (hown : w.ownsRow base 3 1 gv n xs) (hg : (w.alloc o).grownBy w' gv.ownBlock) (hb : w0.heap.size ≤ base) : Chg (fun _ => False) w0 w' :=
  (c.alloc o).grown hg (fun k hk hlt => by have := own_base hown k hk; omega)
theorem size_grown {w w' : World} {base : Nat} {r : Option Nat} {o : Obj} (z : base ≤ w.heap.size) (hg : (w.alloc o).grownBy w' r) : base ≤ w'.heap.size :=
  Nat.le_trans (by simp; omega) hg.size
theorem own_rd {w : World} {base : Nat} {e : TypeId} {gv : Value} {g : List Int} (h : w.ownsRow base e 1 gv g.length (g.map I)) : RdI w gv g := by
  have : w.ownsRow base e 1 gv (g.map I).length (g.map I) := by rw [List.length_map]; exact h
  exact RdV.of_owns this
theorem own_shape {w : World} {base : Nat} {e : TypeId} {gv : Value} {g : List Int} (h : w.ownsRow base e 1 gv g.length (g.map I)) : ∃ a c, gv = .slice a g.length c := by
  obtain ⟨a, c, e⟩ := (own_rd h).shape
  rw [List.length_map] at e
  exact ⟨a, c, e⟩
def lenV : Value → Nat
  | .slice _ n _ => n
  | _ => 0
set_option maxRecDepth 100000 in
set_option maxHeartbeats 8000000 in
theorem told_t (r : Int) (a1 a2 : Option Addr) (l1 c1 l2 c2 : Nat) (xs ts : List Int) (w : World) (h1 : RdI w (.slice a1 l1 c1) xs) (h2 : RdI w (.slice a2 l2 c2) ts) :
    Calls Try.prog 11 #[I r, .slice a1 l1 c1, .slice a2 l2 c2] w fun e w' => e = .returned (.bool true) ∧ Below w.heap.size w w' := by
  obtain ⟨n1, us, k1, r1, m1, b1⟩ := cut_cases h1 60
  have R1 := hid r1
  have R2 := hid h2
  have hl2 := h2.len
  unfold maxLen at hl2
  have K2 := hid hl2.1
  have hl2b := hl2.2
  clear h1 h2 r1 hl2
  have hb1 : us.length ≤ 60 := by omega
  have K : Hid (n1 = us.length) := m1
  clear m1 b1
  rcases k1 with ⟨k1, rfl, k1'⟩ | ⟨k1, rfl⟩
  all_goals
    go_enter Try.func11, Try.ntmps11
    go_wp2_with fail
    refine (New_t r w).mono ?_
    rintro e w1 ⟨rfl, ha, hc⟩
    have hne1 := lt_of_block ha.cells
    have C0 := hid hc
    have A0 := hid ha
    generalize hh : w.heap.size = h at *
    have HH := hid hh
    clear ha hc hh
    go_wp2_with fail
    refine (Tap_t A0.out (by simp [HubS.new])).mono ?_
    rintro e w2 ⟨he, v, l, ha, hc, hb⟩
    obtain rfl : e = .returned (.tuple #[I 0, .bool true]) := he
    have A1 : Hid (HubAt w2 h v l ⟨[⟨true, [], 0⟩], roomOf r⟩) := ha
    have C1 := hid (C0.out.trans hc (fun i hi e => by have := hubB_nil e; rw [HH.out] at hi; omega))
    have B1 : Hid (∀ k, HubB h v l k → w.heap.size ≤ k) := fun k hk => by
      rw [HH.out]
      rcases hb k hk with e | e
      · exact Nat.le_of_eq (hubB_nil e).symm
      · omega
    clear ha hc hb hne1 A0
    generalize roomOf r = R at *
    go_wp2_with fail
    refine (Tap_t A1.out (by simp)).mono ?_
    rintro e w3 ⟨he, v3, l3, ha, hc, hb⟩
    obtain rfl : e = .returned (.tuple #[I 1, .bool true]) := he
    have A2 : Hid (HubAt w3 h v3 l3 ⟨[⟨true, [], 0⟩, ⟨true, [], 0⟩], R⟩) := ha
    have C2 := hid (C1.out.trans hc (fun i hi e => by have := B1.out i e; omega))
    have B2 : Hid (∀ k, HubB h v3 l3 k → w.heap.size ≤ k ∧ k < w3.heap.size) := fun k hk => by
      refine ⟨?_, ha.lt hk⟩
      rcases hb k hk with e | e
      · exact B1.out k e
      · exact Nat.le_trans C1.out.size e
    have hbase : w.heap.size ≤ w3.heap.size := C2.out.size
    clear ha hc hb A1 C1 B1
    generalize hB : w3.heap.size = base at *
    have HB := hid hB
    clear hB
    go_wp2_with fail
    go_loopw [12, 48] (fun gv j wr => ∃ i : Nat, ∃ g : List Int, ∃ t0 t1 : TapS, j = .int .i64 i ∧ i ≤ us.length ∧ HubAt wr h v3 l3 ⟨[t0, t1], R⟩ ∧ Told us i g t0 t1 ∧ wr.ownsRow base 3 1 gv g.length (g.map I) ∧ Chg (fun _ => False) w wr ∧ base ≤ wr.heap.size) (fun _ j _ => us.length - (intOf j).toNat)
    case atStart => exact ⟨0, [], _, _, rfl, by omega, A2.out, ⟨by simp, rfl, rfl, rfl, rfl⟩, World.ownsRow_nil _ _ _ _, C2.out, Nat.le_of_eq HB.out.symm⟩
    case round =>
      obtain ⟨i, g, t0, t1, rfl, hi, ha, htold, hown, hc, hsz⟩ := hrel
      have A3 := hid ha
      have T3 := hid htold
      have O3 := hid hown
      have C3 := hid hc
      have Z3 := hid hsz
      clear ha htold hown hc hsz
      by_cases hlt : i < us.length
      · obtain ⟨a', c', hsl, z1, z2, hcell⟩ := R1.out.new C3.out
        have hlm : (us.map I).length = us.length := List.length_map _
        rw [hlm] at hsl
        injection hsl with e1 e2 e3
        subst e1 e3
        obtain ⟨bk, off, hg, hv⟩ := hcell i (I us[i]) (by rw [List.getElem?_map, List.getElem?_eq_getElem hlt]; rfl)
        subst hg
        have hmb := hlt
        rw [← e2] at hmb
        have T4 := hid (T3.out.post R hlt)
        clear hcell hlm z1 z2 e2
        generalize us[i] = x at *
        go_wp2_with fail
        refine (Post_t (A3.out.alloc _) _ [x] (rdI_new wr [x] 3 (by simp [maxLen])) (by intro _ g hg hB; cases hg; exact absurd (A3.out.lt hB) (Nat.lt_irrefl _)) i (low_two T3.out R) (by simp; omega)).mono ?_
        rintro e w5 ⟨rfl, ha, hc⟩
        have A4 : Hid (HubAt w5 h v3 l3 ⟨[t0.tell R x, t1.tell R x], R⟩) := ha
        have C4 := hid ((C3.out.alloc _).trans hc (fun i hi e => by have := (B2.out i e).1; omega))
        have O4 := hid (own_chg (O3.out.alloc _) hc (fun k e => (B2.out k e).2))
        have Z4 := hid (show base ≤ w5.heap.size from Nat.le_trans (by have := Z3.out; simp; omega) hc.size)
        clear ha hc A3 C3 O3 Z3 hv
        generalize t0.tell R x = s0 at *
        generalize t1.tell R x = s1 at *
        generalize HubS.hits _ _ = zz at *
        go_wp2_with fail
        go_loopw [12, 15] (fun gv nv wt => ∃ n : Nat, ∃ g' : List Int, ∃ s0 s1 : TapS, nv = .int .i64 n ∧ n ≤ 5 ∧ HubAt wt h v3 l3 ⟨[s0, s1], R⟩ ∧ Told us (i + 1) g' s0 s1 ∧ wt.ownsRow base 3 1 gv g'.length (g'.map I) ∧ Chg (fun _ => False) w wt ∧ base ≤ wt.heap.size) (fun _ nv _ => 5 - (intOf nv).toNat)
        case atStart => exact ⟨0, g, s0, s1, rfl, by omega, A4.out, T4.out, O4.out, C4.out, Z4.out⟩
        case round =>
          obtain ⟨n, g', s0, s1, rfl, hn, ha, htold, hown, hc, hsz⟩ := hrel
          have A5 := hid ha
          have T5 := hid htold
          have O5 := hid hown
          have C5 := hid hc
          have Z5 := hid hsz
          have hgl : g'.length ≤ 60 := by have := htold.le; omega
          clear ha htold hown hc hsz A4 T4 O4 C4 Z4
          by_cases hT : i < l2
          · obtain ⟨a', c', hsl, z1, z2, hcell⟩ := R2.out.new C5.out
            have hT' : i < ts.length := by have := K2.out; omega
            have hlm : (ts.map I).length = ts.length := List.length_map _
            rw [hlm] at hsl
            injection hsl with e1 e2 e3
            subst e1 e3
            obtain ⟨bk2, off2, hg, hv2⟩ := hcell i (I ts[i]) (by rw [List.getElem?_map, List.getElem?_eq_getElem hT']; rfl)
            subst hg
            clear hcell hlm z1 z2 e2
            generalize ts[i] = q at *
            by_cases hq : (n : Int) < q
            · by_cases h5 : n < 5
              · go_wp2_with fail
                refine (Take_t A5.out 0).mono ?_
                rintro e w6 ⟨rfl, ha, hc⟩
                rw [take_two] at ha ⊢
                have C6 := hid (C5.out.trans hc (fun i hi e => by have := (B2.out i e).1; omega))
                have O6 := hid (own_chg O5.out hc (fun k e => (B2.out k e).2))
                have Z6 := hid (Nat.le_trans Z5.out hc.size)
                cases hemp : s0.buf.isEmpty
                · rw [hemp] at ha
                  have A6 : Hid (HubAt w6 h v3 l3 ⟨[s0.took, s1], R⟩) := ha
                  have T6 := hid (T5.out.take hemp)
                  clear ha hc hemp hv2
                  generalize s0.took = s2 at *
                  generalize s0.buf.headD 0 = y at *
                  go_wp2_with (at_builtin; refine wpl_append_ints rfl _ _ rfl base _ g' rfl (O6.out.alloc _) _ rfl [y] (rdI_new w6 [y] 3 (by simp [maxLen])) ?p2 ?p4 ?p5)
                  case p2 => simp; omega
                  case p4 => have := Z6.out; simp; omega
                  case p5 =>
                    intro v' w7 hown' hg'
                    have O7 := hid hown'
                    have A7 := hid (hub_grown A6.out O6.out hg' (fun k e => (B2.out k e).2))
                    have C7 := hid (chg_grown C6.out O6.out hg' hbase)
                    have Z7 := hid (size_grown Z6.out hg')
                    clear hown' hg'
                    go_wp2
                    go_roundw
                    case rel => exact ⟨n + 1, g' ++ [y], s2, s1, by go_num, by omega, A7.out, T6.out, by rw [List.length_append, List.map_append]; exact O7.out, C7.out, Z7.out⟩
                    case measure => simp [intOf]; omega
                · rw [hemp] at ha
                  have A6 : Hid (HubAt w6 h v3 l3 ⟨[s0, s1], R⟩) := ha
                  clear ha hc hemp hv2
                  go_wp2
                  go_roundw
                  case rel => exact ⟨n + 1, g', s0, s1, by go_num, by omega, A6.out, T5.out, O6.out, C6.out, Z6.out⟩
                  case measure => simp [intOf]; omega
              · go_wp2
                go_roundw
                case rel => exact ⟨i + 1, g', s0, s1, by go_num, by omega, A5.out, T5.out, O5.out, C5.out, Z5.out⟩
                case measure => simp [intOf]; omega
            · go_wp2
              go_roundw
              case rel => exact ⟨i + 1, g', s0, s1, by go_num, by omega, A5.out, T5.out, O5.out, C5.out, Z5.out⟩
              case measure => simp [intOf]; omega
          · go_wp2
            go_roundw
            case rel => exact ⟨i + 1, g', s0, s1, by go_num, by omega, A5.out, T5.out, O5.out, C5.out, Z5.out⟩
            case measure => simp [intOf]; omega
      · have hie : i = us.length := by omega
        have hmb := hlt
        rw [← K.out] at hmb
        rw [hie] at T3
        clear hie
        go_wp2_with fail
        go_loopw [12] (fun gv wt => ∃ g' : List Int, ∃ s0 s1 : TapS, HubAt wt h v3 l3 ⟨[s0, s1], R⟩ ∧ Told us us.length g' s0 s1 ∧ wt.ownsRow base 3 1 gv g'.length (g'.map I) ∧ Chg (fun _ => False) w wt ∧ base ≤ wt.heap.size) (fun gv _ => 61 - lenV gv)
        case atStart => exact ⟨g, t0, t1, A3.out, T3.out, O3.out, C3.out, Z3.out⟩
        case round =>
          obtain ⟨g', s0, s1, ha, htold, hown, hc, hsz⟩ := hrel
          have A5 := hid ha
          have T5 := hid htold
          have O5 := hid hown
          have C5 := hid hc
          have Z5 := hid hsz
          have hgl : g'.length + s0.buf.length + s0.missed = us.length := htold.len0
          have hgk := hgl
          rw [← K.out] at hgk
          obtain ⟨ga, gc, rfl⟩ := own_shape hown
          clear ha htold hown hc hsz A3 T3 O3 C3 Z3
          go_wp2_with fail
          refine (Len_t A5.out 0).mono ?_
          rintro e w6 ⟨he, rfl⟩
          obtain rfl : e = .returned (I s0.buf.length) := he
          by_cases hpos : 0 < s0.buf.length
          · go_wp2_with fail
            refine (Take_t A5.out 0).mono ?_
            rintro e w6 ⟨he, ha, hc⟩
            have hemp : s0.buf.isEmpty = false := by cases hbb : s0.buf with
              | nil => rw [hbb] at hpos; simp at hpos
              | cons _ _ => rfl
            rw [take_two, hemp] at ha he
            obtain rfl : e = .returned (.tuple #[I (s0.buf.headD 0), .bool true]) := he
            have A6 : Hid (HubAt w6 h v3 l3 ⟨[s0.took, s1], R⟩) := ha
            have C6 := hid (C5.out.trans hc (fun i hi e => by have := (B2.out i e).1; omega))
            have O6 := hid (own_chg O5.out hc (fun k e => (B2.out k e).2))
            have Z6 := hid (Nat.le_trans Z5.out hc.size)
            have T6 := hid (T5.out.take hemp)
            clear ha hc hemp
            generalize s0.took = s2 at *
            generalize s0.buf.headD 0 = y at *
            go_wp2_with (at_builtin; refine wpl_append_ints rfl _ _ rfl base _ g' rfl (O6.out.alloc _) _ rfl [y] (rdI_new w6 [y] 3 (by simp [maxLen])) ?p2 ?p4 ?p5)
            case p2 => simp; omega
            case p4 => have := Z6.out; simp; omega
            case p5 =>
              intro v' w7 hown' hg'
              have hown2 : w7.ownsRow base 3 1 v' (g' ++ [y]).length ((g' ++ [y]).map I) := by rw [List.length_append, List.map_append]; exact hown'
              have O7 := hid hown2
              have A7 := hid (hub_grown A6.out O6.out hg' (fun k e => (B2.out k e).2))
              have C7 := hid (chg_grown C6.out O6.out hg' hbase)
              have Z7 := hid (size_grown Z6.out hg')
              obtain ⟨ga2, gc2, rfl⟩ := own_shape hown2
              clear hown' hown2 hg'
              go_wp2
              go_roundw
              case rel => exact ⟨g' ++ [y], s2, s1, A7.out, T6.out, O7.out, C7.out, Z7.out⟩
              case measure => simp [lenV]; omega
          · have hgm : g'.length + s0.missed = us.length := by omega
            have hgm2 := hgm
            rw [← K.out] at hgm2
            have SUB : Hid (g'.Sublist us) := by
              have := T5.out.sub
              have h0 : s0.buf = [] := List.eq_nil_of_length_eq_zero (by omega)
              rw [h0, List.append_nil, List.take_length] at this
              exact this
            have hs0 : s0.buf.length = 0 := by omega
            have RG := hid (own_rd O5.out)
            go_wp2_with fail
            go_loop [20, 110] (fun av jv => ∃ t j : Nat, av = .int .i64 t ∧ jv = .int .i64 j ∧ j ≤ g'.length ∧ t ≤ us.length ∧ (g'.drop j).Sublist (us.drop t)) (fun _ jv => g'.length - (intOf jv).toNat)
            case atStart => exact ⟨0, 0, rfl, rfl, by omega, by omega, SUB.out⟩
            case round =>
              obtain ⟨t, j, rfl, rfl, hj, ht, hsub⟩ := hrel
              have S1 := hid hsub
              clear hsub
              by_cases hjl : j < g'.length
              · obtain ⟨a', c', hsl, z1, z2, hcell⟩ := RG.out
                have hlm : (g'.map I).length = g'.length := List.length_map _
                rw [hlm] at hsl
                injection hsl with e1 e2 e3
                subst e1 e3
                obtain ⟨gb, goff, hg, hv⟩ := hcell j (I g'[j]) (by rw [List.getElem?_map, List.getElem?_eq_getElem hjl]; rfl)
                subst hg
                have S2 := S1.out
                rw [List.drop_eq_getElem_cons hjl] at S2
                have S3 := hid S2
                clear hcell hlm z1 z2 e2 S2 S1
                generalize g'[j] = y at *
                go_wp2_with fail
                go_loop [20] (fun av => ∃ t : Nat, av = .int .i64 t ∧ t ≤ us.length ∧ (y :: g'.drop (j + 1)).Sublist (us.drop t)) (fun av => us.length - (intOf av).toNat)
                case atStart => exact ⟨t, rfl, ht, S3.out⟩
                case round =>
                  obtain ⟨t2, rfl, ht2, hsub⟩ := hrel
                  have S4 := hid hsub
                  clear hsub S3
                  by_cases htl : t2 < us.length
                  · obtain ⟨a', c', hsl, z1, z2, hcell⟩ := R1.out.new C5.out
                    have hlm : (us.map I).length = us.length := List.length_map _
                    rw [hlm] at hsl
                    injection hsl with e1 e2 e3
                    subst e1 e3
                    obtain ⟨ub, uoff, hg, hv2⟩ := hcell t2 (I us[t2]) (by rw [List.getElem?_map, List.getElem?_eq_getElem htl]; rfl)
                    subst hg
                    have hmb2 := htl
                    rw [← e2] at hmb2
                    have S5 := S4.out
                    rw [List.drop_eq_getElem_cons htl] at S5
                    have S6 := sub_step S5
                    clear hcell hlm z1 z2 e2 S5 S4
                    by_cases hxy : us[t2] = y
                    · rw [if_pos hxy] at S6
                      rw [hxy] at hv2
                      have S7 := hid S6
                      clear S6 hxy
                      go_wp2
                      go_roundw
                      case rel => exact ⟨t2 + 1, j + 1, by go_num, by go_num, by omega, by omega, S7.out⟩
                      case measure => simp [intOf]; omega
                    · rw [if_neg hxy] at S6
                      have S7 := hid S6
                      clear S6
                      generalize us[t2] = x at *
                      go_wp2
                      go_roundw
                      case rel => exact ⟨t2 + 1, by go_num, by omega, S7.out⟩
                      case measure => simp [intOf]; omega
                  · have := S4.out
                    have h0 : us.drop t2 = [] := List.drop_eq_nil_of_le (by omega)
                    rw [h0] at this
                    cases this
              · have hi1 := congrArg (fun x : Nat => (x : Int)) hgm2
                have hs1 := T5.out.len1
                rw [← K.out] at hs1
                have hi2 := congrArg (fun x : Nat => (x : Int)) hs1
                push_cast at hi1 hi2
                clear hgm hgm2 hs1 hgl hgk
                go_wp2_with fail
                refine (Missed_t A5.out 0).mono ?_
                rintro e w6 ⟨he, rfl⟩
                obtain rfl : e = .returned (I s0.missed) := he
                go_wp2_with fail
                refine (Len_t A5.out 1).mono ?_
                rintro e w6 ⟨he, rfl⟩
                obtain rfl : e = .returned (I s1.buf.length) := he
                go_wp2_with fail
                refine (Missed_t A5.out 1).mono ?_
                rintro e w6 ⟨he, rfl⟩
                obtain rfl : e = .returned (I s1.missed) := he
                go_wp2_with fail
                refine (awake_t _).mono ?_
                rintro e w9 ⟨rfl, hc⟩
                have C9 := hid (C5.out.trans hc (fun _ _ e => e))
                clear hc
                go_wp2
                go_ret
                exact ⟨rfl, C9.out.below (fun _ e => e.elim) (Nat.le_refl _)⟩
end Go.Proofs.Ytjlmbmamkhneiaa
