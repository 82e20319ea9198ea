/- The walks of the Post and Take of the document's hub. -/
import Derived.Test.YtjlmbmamkhneiaaRhu
import Derived.Deep.DeepCutAuto
import Derived.Outline
namespace Go.Proofs.Ytjlmbmamkhneiaa
open Go Go.RowKit
set_option linter.unusedVariables false
theorem results_row1 {P : Program} {fn : Func} {p u : Tmp} {ty : TypeId} (h : fn.results = #[.cell p ty, .tmp u]) (tmps : Array Value) (w : World) (g : Nat) (t : TypeId) (cs : Array Value) (fr : Nat × Nat) (d : TypeDesc)
    (hp : tmps.getD p undef = .pointer (some ⟨g, 0, none⟩)) (hg : w.heap[g]? = some (.cells cs t fr))
    (hu : P.underlying ty = some d) (hd : (match d with | .struct _ | .array _ _ => true | _ => false) = true) (hi : (P.info? ty).map (·.size) = some cs.size) :
    (results fn tmps).run P w = .ok (.tuple #[.agg cs, tmps.getD u undef]) w := by
  have hp' : tmps[p]?.getD undef = .pointer (some ⟨g, 0, none⟩) := by simpa using hp
  simp [results, h, hp', asAddr, run_loadVar_row w g t ty cs fr d hg hu hd hi]
theorem results_row2 {P : Program} {fn : Func} {p u v : Tmp} {ty : TypeId} (h : fn.results = #[.cell p ty, .tmp u, .tmp v]) (tmps : Array Value) (w : World) (g : Nat) (t : TypeId) (cs : Array Value) (fr : Nat × Nat) (d : TypeDesc)
    (hp : tmps.getD p undef = .pointer (some ⟨g, 0, none⟩)) (hg : w.heap[g]? = some (.cells cs t fr))
    (hu : P.underlying ty = some d) (hd : (match d with | .struct _ | .array _ _ => true | _ => false) = true) (hi : (P.info? ty).map (·.size) = some cs.size) :
    (results fn tmps).run P w = .ok (.tuple #[.agg cs, tmps.getD u undef, tmps.getD v undef]) w := by
  have hp' : tmps[p]?.getD undef = .pointer (some ⟨g, 0, none⟩) := by simpa using hp
  simp [results, h, hp', asAddr, run_loadVar_row w g t ty cs fr d hg hu hd hi]
def HubS.mid (H : HubS) (x : Int) (m : Nat) : List TapS := (H.taps.take m).map (·.tell H.room x)
theorem mid_step (H : HubS) (x : Int) {m : Nat} (hm : m < H.taps.length) : H.mid x (m + 1) = H.mid x m ++ [H.taps[m].tell H.room x] := by
  unfold HubS.mid; rw [take_snoc hm, List.map_append]; rfl
theorem mid_len (H : HubS) (x : Int) {m : Nat} (hm : m ≤ H.taps.length) : (H.mid x m).length = m := by unfold HubS.mid; simp; omega
theorem mid_all (H : HubS) (x : Int) : H.mid x H.taps.length = (H.all x).taps := by unfold HubS.mid HubS.all; simp
/-- In the midst of Post: the hub's box and the result's; the row of taps is new. -/
structure PostI (w0 w : World) (v : Value) (room : Nat) (l : Value) (vs : List Value) (T : List TapS) : Prop where
  box : w.heap[w0.heap.size]? = some (.cells #[v, I room] 73 (0, 0))
  res : w.heap[w0.heap.size + 1]? = some (.cells #[.slice none 0 0, I 0] 73 (0, 0))
  row : RHub w l vs T
  own : w.ownsRow w0.heap.size 80 3 l T.length ((vs.zip T).map tapV).flatten
  new : New w0 w
theorem PostI.go {w0 w w' : World} {v : Value} {room : Nat} {l : Value} {vs : List Value} {T : List TapS} (h : PostI w0 w v room l vs T) (c : New w w') : PostI w0 w' v room l vs T :=
  ⟨(c.block _ (lt_of_block h.box) (fun e => e)).trans h.box, (c.block _ (lt_of_block h.res) (fun e => e)).trans h.res, h.row.new c, owns_same h.own (fun g hg => c.block g (owns_block h.own hg).2.1 (fun e => e)), h.new.trans c (fun _ _ e => e)⟩
/-- The row grew by a tap. -/
theorem PostI.push {w0 w w2 : World} {v l l2 u : Value} {room : Nat} {vs : List Value} {T : List TapS} {t : TapS} (h : PostI w0 w v room l vs T) (hown : w2.ownsRow w0.heap.size 80 3 l2 (T.length + 1) (((vs.zip T).map tapV).flatten ++ tapV (u, t)))
    (hg : w.grownBy w2 l.ownBlock) (hu : BufAt w u t.buf) : PostI w0 w2 v room l2 (vs ++ [u]) (T ++ [t]) := by
  have s : Stay [3, 73] w w2 := Stay.grown h.row.row hg (by simp)
  have s3 : Stay [3] w w2 := s.sub (by simp)
  have c : Chg (fun g => l.ownBlock = some g) w w2 := (Chg.refl _ w).grown hg (fun k hk _ => hk)
  have h0 : w2.ownsRow 0 80 3 l2 (T.length + 1) (((vs.zip T).map tapV).flatten ++ tapV (u, t)) := by
    refine ⟨hown.1, ?_⟩
    rcases hown.2 with hn | ⟨g, cap, cur, hv, _, r⟩
    · exact .inl hn
    · exact .inr ⟨g, cap, cur, hv, Nat.zero_le _, r⟩
  have hr := h.row.snoc h0 s3 (hu.stay s3 (by simp))
  refine ⟨s _ _ _ _ h.box (by simp), s _ _ _ _ h.res (by simp), hr, ?_, h.new.trans c (fun i hi e => absurd hi (Nat.not_lt.2 (owns_block h.own e).1))⟩
  have e : (((vs ++ [u]).zip (T ++ [t])).map tapV).flatten = ((vs.zip T).map tapV).flatten ++ tapV (u, t) := by rw [List.zip_append h.row.len]; simp
  rw [e, List.length_append]
  exact hown
set_option maxRecDepth 100000 in
set_option maxHeartbeats 16000000 in
theorem Post_r {w : World} {v : Value} {vs : List Value} {H : HubS} (h : RHub w v vs H.taps) (hbig : H.room ≤ 1024) (hfew : H.taps.length ≤ 16) (M : Nat) (hlow : H.low M) (hM : M ≤ 549755813888) (x : Int) :
    Calls Try.prog 75 #[.agg #[v, I H.room], I x] w fun e w' => ∃ v' vs', e = .returned (.tuple #[.agg #[v', I H.room], I H.hit]) ∧ RHub w' v' vs' (H.all x).taps ∧ New w w' := by
  have R0 := hid h
  have HLOW := hid hlow
  obtain ⟨la, lc, rfl, hl1, hl2⟩ := owns_shape h.row
  clear h hlow
  go_enter Try.func75, Try.ntmps75
  go_wp2_with fail
  go_loopw [6, 7, 13] (fun l n i wr => ∃ (m : Nat) (vs' : List Value), i = .int .i64 m ∧ n = .int .i64 (H.hitTo m) ∧ m ≤ H.taps.length ∧ PostI w wr (.slice la H.taps.length lc) H.room l vs' (H.mid x m)) (fun _ _ i _ => H.taps.length - (intOf i).toNat)
  case atStart =>
    exact ⟨0, [], rfl, rfl, by omega, ⟨heap_alloc2_old _ _ _, heap_alloc2_new _ _ _, RHub.nil _, World.ownsRow_nil _ _ _ _, ((Chg.refl _ w).alloc _).alloc _⟩⟩
  case round =>
    obtain ⟨W0, rfl⟩ : ∃ W0 : World, W0 = wr := ⟨_, rfl⟩
    obtain ⟨m, vs', rfl, rfl, hm, hp⟩ := hrel
    obtain ⟨l', c', hl', _, _⟩ := owns_shape hp.own
    rw [mid_len H x hm] at hl'
    subst hl'
    have PI := hid hp
    obtain ⟨b0, b1, _⟩ := cells2 hp.box
    have b2 : ∀ o, (W0.alloc o).cell? ⟨w.heap.size, 1, none⟩ = some (I H.room) := fun o => acell b1 o
    by_cases hlt : m < H.taps.length
    · obtain ⟨g, cap, u, hv, k0, k1, k2, hb, _⟩ := (R0.out.new hp.new).at hlt
      injection hv with ea en ec
      subst ea
      obtain ⟨ua, uc, rfl⟩ := hb.1.shape
      have HB := hid hb
      have HL := hid (HLOW.out _ (List.getElem_mem hlt))
      have HS := hid (mid_step H x hlt)
      have HT := hid (HubS.hitTo_step hlt)
      have hh := H.hitTo_le m
      have LM := hid (mid_len H x hm)
      clear hp hb en ec
      generalize H.taps[m] = t at *
      obtain ⟨op, buf, missed⟩ := t
      have OW := hid (show W0.ownsRow w.heap.size 80 3 (.slice l' m c') m ((vs'.zip (H.mid x m)).map tapV).flatten by have h := PI.out.own; rwa [LM.out] at h)
      have SZ := hid PI.out.new.size
      have hbm : buf.length ≤ uc ∧ uc ≤ maxLen := by
        obtain ⟨_, _, e, q1, q2, _⟩ := HB.out.1
        injection e with _ e2 e3
        rw [List.length_map] at q1
        exact ⟨by rw [e3]; exact q1, by rw [e3]; exact q2⟩
      obtain ⟨hbm1, hbm2⟩ := hbm
      rw [List.length_map] at k0 HB
      have hlm := HL.out
      unfold maxLen at hbm2
      dsimp only at hlm HT HB
      cases op
      · have E := hid (show TapS.tell H.room ⟨false, buf, missed⟩ x = ⟨false, buf, missed⟩ ∧ TapS.told H.room ⟨false, buf, missed⟩ = false from ⟨rfl, rfl⟩)
        have A := hid ((Chg.refl (fun _ => False) W0).alloc (.cells #[.slice ua buf.length uc, .bool false, I missed] 80))
        go_wp2_with (at_builtin; refine wpl_appendG (by rfl) _ _ 71 (by rfl) G71 w.heap.size m 1 (.slice l' m c') _ (by rfl) (rowNew OW.out (A.out.alloc _)) _ (by rfl) [.slice ua buf.length uc, .bool false, I missed] (RdG.oneAt _ [.slice ua buf.length uc, .bool false, I missed] 80 (by simp)) (by rfl) (by intro y hy; simp at hy; rcases hy with rfl | rfl | rfl <;> rfl) (by omega) (by unfold maxLen; omega) (by have := SZ.out; simp; omega) ?_; intro l2 w8 hown hg; have O8 := hid hown; have G8 := hid hg; clear hown hg)
        go_roundw
        case rel =>
          refine ⟨m + 1, vs' ++ [.slice ua buf.length uc], by go_num, ?_, by omega, ?_⟩
          · rw [HT.out, E.out.2]; simp
          · rw [HS.out, E.out.1]
            exact PostI.push (t := ⟨false, buf, missed⟩) (PI.out.go (A.out.alloc _)) (by rw [LM.out]; exact O8.out) G8.out (HB.out.stay (ts := [3]) (.new (A.out.alloc _)) (by simp))
        case measure => simp [intOf]; omega
      · by_cases hroom : (buf.length : Int) < H.room
        · have E := hid (show TapS.tell H.room ⟨true, buf, missed⟩ x = ⟨true, buf ++ [x], missed⟩ ∧ TapS.told H.room ⟨true, buf, missed⟩ = true from by
            have : buf.length < H.room := by omega
            constructor
            · unfold TapS.tell; simp [this]
            · unfold TapS.told; simp [this])
          have A := hid ((Chg.refl (fun _ => False) W0).alloc (.cells #[.slice ua buf.length uc, .bool true, I missed] 80))
          have hA := hid (heap_alloc_new W0 (.cells #[.slice ua buf.length uc, .bool true, I missed] 80))
          have BG := hid (show RdG W0 (.slice ua buf.length uc) buf.length (buf.map I) from by have h := RdG.of_rdV HB.out.1; rwa [List.length_map] at h)
          have ZA := hid (show (W0.alloc (.cells #[.slice ua buf.length uc, .bool true, I missed] 80)).heap.size = W0.heap.size + 1 by simp)
          go_upto_region 7 with fail
          generalize W0.alloc (.cells #[.slice ua buf.length uc, .bool true, I missed] 80) = WA at *
          obtain ⟨a0, a1, a2, af⟩ := cells3 hA.out
          have a00 : ∀ o, (WA.alloc o).cell? ⟨W0.heap.size, 0, none⟩ = some (.slice ua buf.length uc) := fun o => acell a0 o
          clear k0 k1 k2
          have E0 := hid (own_none (e := 3) (size := 1) (heap_alloc_new WA (.cells #[] 3)) (Nat.le_refl _))
          have hbb := hbig
          go_wp2_with (first
            | (at_builtin; refine wpl_appendG (by rfl) _ _ 24 (by rfl) G24 WA.heap.size 0 buf.length (.slice (some ⟨WA.heap.size, 0, none⟩) 0 0) [] (by rfl) E0.out (.slice ua buf.length uc) (by rfl) (buf.map I) (BG.out.new (A.out.alloc _)) (by simp) (by intro u hu; obtain ⟨z, _, rfl⟩ := List.mem_map.1 hu; rfl) (by omega) (by unfold maxLen; omega) (by simp) ?_; intro v5 w5 hown hg; rw [List.nil_append, Nat.zero_add] at hown; obtain ⟨a5, c5, hv5, _, _⟩ := owns_shape hown; subst hv5; have O5 := hid hown; have N5 := hid (show New WA w5 from ((Chg.refl _ WA).alloc _).grown hg (fun k hk hlt => absurd hlt (by simp [Value.ownBlock] at hk; omega))); clear hown hg)
            | (at_builtin; refine wpl_appendG (by rfl) _ _ 24 (by rfl) G24 WA.heap.size buf.length 1 (.slice a5 buf.length c5) (buf.map I) (by rfl) (O5.out.alloc _) _ (by rfl) [I x] (RdG.oneAt w5 [I x] 3 (by rfl)) (by rfl) (by intro u hu; simp at hu; rcases hu with rfl; rfl) (by omega) (by unfold maxLen; omega) (by have := N5.out.size; simp; omega) ?_; intro v6 w6 hown hg; obtain ⟨a6, c6, hv6, _, _⟩ := owns_shape hown; subst hv6; have O6 := hid hown; have N6 := hid (show New WA w6 from (N5.out.alloc _).grown hg (fun k hk hlt => absurd hlt (Nat.not_lt.2 (owns_block O5.out hk).1))); have hA6 := hid ((N6.out.block _ (lt_of_block hA.out) (fun e => e)).trans hA.out); obtain ⟨q0, q1, q2, qf⟩ := cells3 hA6.out; have NB := hid (show New W0 (w6.setCell ⟨W0.heap.size, 0, none⟩ (.slice a6 (buf.length + 1) c6)) from ((A.out.trans N6.out (fun _ _ e => e)).setCell (p := ⟨W0.heap.size, 0, none⟩) (fun h => absurd h (Nat.lt_irrefl _)) _)); clear hown hg)
            | (at_builtin; refine wpl_appendG (by rfl) _ _ 71 (by rfl) G71 w.heap.size m 1 (.slice l' m c') _ (by rfl) (rowNew OW.out (NB.out.alloc _)) _ (by rfl) [.slice a6 (buf.length + 1) c6, .bool true, I missed] (RdG.oneAt _ [.slice a6 (buf.length + 1) c6, .bool true, I missed] 80 (by first | rfl | simp | simp [World.setCell])) (by rfl) (by intro y hy; simp at hy; rcases hy with rfl | rfl | rfl <;> rfl) (by omega) (by unfold maxLen; omega) (by have := SZ.out; have := NB.out.size; simp only [World.size_alloc]; omega) ?_; intro l2 w8 hown hg; have O8 := hid hown; have G8 := hid hg; clear hown hg))
          go_roundw
          case rel =>
            refine ⟨m + 1, vs' ++ [.slice a6 (buf.length + 1) c6], by go_num, ?_, by omega, ?_⟩
            · rw [HT.out, E.out.2]; simp
            · rw [HS.out, E.out.1]
              have e : (buf ++ [x]).map I = buf.map I ++ [I x] := by simp
              have B6 : BufAt w6 (.slice a6 (buf.length + 1) c6) (buf ++ [x]) := BufAt.of_owns (base := WA.heap.size) (n := buf.length + 1) (by simp) (by rw [e]; exact O6.out)
              exact PostI.push (t := ⟨true, buf ++ [x], missed⟩) (PI.out.go (NB.out.alloc _)) (by rw [LM.out]; exact O8.out) G8.out ((B6.stay (ts := [3]) (Stay.set hA6.out (by simp) 0 _) (by simp)).stay (ts := [3]) (.new ((Chg.refl _ _).alloc _)) (by simp))
          case measure => simp [intOf]; omega
        · have E := hid (show TapS.tell H.room ⟨true, buf, missed⟩ x = ⟨true, buf, missed + 1⟩ ∧ TapS.told H.room ⟨true, buf, missed⟩ = false from by
            have : ¬ buf.length < H.room := by omega
            constructor
            · unfold TapS.tell; simp [this]
            · unfold TapS.told; simp [this])
          have A := hid ((Chg.refl (fun _ => False) W0).alloc (.cells #[.slice ua buf.length uc, .bool true, I (missed + 1 : Nat)] 80))
          go_wp2_with (at_builtin; refine wpl_appendG (by rfl) _ _ 71 (by rfl) G71 w.heap.size m 1 (.slice l' m c') _ (by rfl) (rowNew OW.out (A.out.alloc _)) _ (by rfl) [.slice ua buf.length uc, .bool true, I (missed + 1 : Nat)] (RdG.oneAt _ [.slice ua buf.length uc, .bool true, I (missed + 1 : Nat)] 80 (by simp)) (by rfl) (by intro y hy; simp at hy; rcases hy with rfl | rfl | rfl <;> rfl) (by omega) (by unfold maxLen; omega) (by have := SZ.out; simp; omega) ?_; intro l2 w8 hown hg; have O8 := hid hown; have G8 := hid hg; clear hown hg)
          go_roundw
          case rel =>
            refine ⟨m + 1, vs' ++ [.slice ua buf.length uc], by go_num, ?_, by omega, ?_⟩
            · rw [HT.out, E.out.2]; simp
            · rw [HS.out, E.out.1]
              exact PostI.push (t := ⟨true, buf, missed + 1⟩) (PI.out.go (A.out.alloc _)) (by rw [LM.out]; exact O8.out) G8.out (HB.out.stay (ts := [3]) (.new (A.out.alloc _)) (by simp))
          case measure => simp [intOf]; omega
    · obtain rfl : H.taps.length = m := by omega
      have AL := hid (mid_all H x)
      have HTA := hid H.hitTo_all
      obtain ⟨b0, b1, bf⟩ := cells2 hp.box
      obtain ⟨r0, r1, rf⟩ := cells2 hp.res
      clear hp
      go_wp2_with fail
      have e1 : (W0.setCell ⟨w.heap.size, 0, none⟩ (.slice l' H.taps.length c')).heap[w.heap.size + 1]? = some (.cells #[.slice none 0 0, I 0] 73 (0, 0)) := (heap_setCell_other _ _ _ _ (by simp)).trans PI.out.res
      have e2 := heap_setCell_same _ (w.heap.size + 1) 0 _ 73 (.slice l' H.taps.length c') e1
      have e3 := heap_setCell_same _ (w.heap.size + 1) 1 _ 73 (.int .i64 H.room) e2
      have s1 : Stay [3, 80] W0 (((W0.setCell ⟨w.heap.size, 0, none⟩ (.slice l' H.taps.length c')).setCell ⟨w.heap.size + 1, 0, none⟩ (.slice l' H.taps.length c')).setCell ⟨w.heap.size + 1, 1, none⟩ (.int .i64 H.room)) :=
        ((Stay.set PI.out.box (by simp) 0 _).trans (Stay.set e1 (by simp) 0 _)).trans (Stay.set e2 (by simp) 1 _)
      have n1 : New w (((W0.setCell ⟨w.heap.size, 0, none⟩ (.slice l' H.taps.length c')).setCell ⟨w.heap.size + 1, 0, none⟩ (.slice l' H.taps.length c')).setCell ⟨w.heap.size + 1, 1, none⟩ (.int .i64 H.room)) :=
        ((PI.out.new.setCell (p := ⟨w.heap.size, 0, none⟩) (fun h => absurd h (Nat.lt_irrefl _)) _).setCell (p := ⟨w.heap.size + 1, 0, none⟩) (fun h => absurd h (by simp)) _).setCell (p := ⟨w.heap.size + 1, 1, none⟩) (fun h => absurd h (by simp)) _
      refine bodyPost_ret (results_row1 rfl _ _ (w.heap.size + 1) 73 #[.slice l' H.taps.length c', .int .i64 H.room] (0, 0) _ rfl e3 Try.underlying73 rfl (by kernel_rfl)) rfl ⟨.slice l' H.taps.length c', vs', ?_, ?_, n1⟩
      · rw [← HTA.out]; rfl
      · rw [← AL.out]; exact PI.out.row.stay s1 (by simp) (by simp)
end Go.Proofs.Ytjlmbmamkhneiaa
