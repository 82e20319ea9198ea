/- The walks of a device's Sync, On, Arm, Down, Len, Pending. -/
import Derived.Test.YtjlmbmamkhneiaaRea
namespace Go.Proofs.Ytjlmbmamkhneiaa
open Go Go.RowKit
set_option linter.unusedVariables false
attribute [local go_sem ↓] load90_fold load92_fold store90_fold store92_fold alloc90_fold alloc92_fold build92_fold bslice85_fold
def settle (ps : List (Nat × List UInt8)) (L : List (List UInt8)) : List (List UInt8) := ps.foldl (fun L p => L.set p.1 p.2) L
theorem settle_snoc (ps : List (Nat × List UInt8)) (p : Nat × List UInt8) (L : List (List UInt8)) : settle (ps ++ [p]) L = (settle ps L).set p.1 p.2 := by simp [settle]
theorem settle_len (ps : List (Nat × List UInt8)) : ∀ L : List (List UInt8), (settle ps L).length = L.length := by
  induction ps with
  | nil => intro L; rfl
  | cons p ps ih => intro L; show (settle ps (L.set p.1 p.2)).length = _; rw [ih, List.length_set]
def DevS.settled (D : DevS) (m : Nat) : DevS := { D with lasts := settle (D.pend.take m) D.lasts }
theorem settled_zero (D : DevS) : D.settled 0 = D := rfl
theorem settled_all (D : DevS) : D.settled D.pend.length = { D with lasts := settle D.pend D.lasts } := by simp [DevS.settled]
theorem settled_step (D : DevS) {m : Nat} (hm : m < D.pend.length) : D.settled (m + 1) = { D with lasts := (D.settled m).lasts.set D.pend[m].1 D.pend[m].2 } := by
  simp only [DevS.settled]; rw [take_snoc hm, settle_snoc]
def DevS.synced (D : DevS) : DevS := { D with lasts := settle D.pend D.lasts, pend := [] }
def DevS.sync (D : DevS) : DevS × Int := if D.down = true then (D, 9) else if D.act.2 = true then (D.act.1.synced, 0) else (D.act.1, 9)
theorem Sync_nil (w : World) : Calls Try.prog 17 #[.pointer none] w fun e w' => e = .returned (I 11) ∧ w = w' := by
  go_enter Try.func17, Try.ntmps17
  go_wp2
  go_ret
  exact ⟨rfl, rfl⟩
theorem clearP {S : Nat → Prop} {w : World} {d g : Nat} {vP vK : Value} {D : DevS} (h : DevIs S w d g vP vK D) :
    DevIs S (w.setCell ⟨d, 1, none⟩ (.slice none 0 0)) d g (.slice none 0 0) vK { D with pend := [] } ∧ Chg (Mut S pts w) w (w.setCell ⟨d, 1, none⟩ (.slice none 0 0)) :=
  ⟨h.fields _ vK { D with pend := [] } rfl (heap_setCell_same w d 1 _ 87 _ h.dev) (fun k hk => heap_setCell_other _ _ _ _ hk) (World.ownsRow_nil _ _ _ _) h.keep (fun k hk => (by cases hk)) ⟨h.ok.cell, fun p hp => (by cases hp), h.ok.most, h.ok.fuse, Nat.zero_le _⟩, h.set (Chg.refl _ w) 1 _⟩
/-- What the region of 'd.lasts[w.at] = w.c' reads, and where it writes. -/
def Hold (d g k c : Nat) (p : Nat × List UInt8) (w' : World) : Prop :=
  w'.cell? ⟨d, 0, none⟩ = some (.slice (some ⟨g, 0, none⟩) c c) ∧ w'.cell? ⟨k, 0, none⟩ = some (I p.1) ∧ w'.rangeAt k 1 (cellV p.2) ∧ w'.there g (p.1 * 64) 64
theorem settle_set {S : Nat → Prop} {wx : World} {d g : Nat} {vP vK : Value} {D : DevS} {p : Nat × List UInt8} (h : DevIs S wx d g vP vK D) (hp1 : p.1 < D.lasts.length) (hp : p.2.length = 64) :
    wx.drew.setCells g (p.1 * 64) (cellV p.2) = (wx.setRow g ((D.lasts.set p.1 p.2).map cellV).flatten.toArray).drew := by
  have e := setCells_flat (w := wx.drew) h.lasts (cellV_len h.ok) (i := p.1) (by simpa using hp1) (y := cellV p.2) (by simp [cellV, hp])
  rw [e, ← List.map_set]; rfl
theorem settle_hold {S : Nat → Prop} {wx : World} {d g k : Nat} {vP vK : Value} {D : DevS} {p : Nat × List UInt8} (h : DevIs S wx d g vP vK D) (hw : WrAt wx k p) (hp1 : p.1 < D.lasts.length) (hp : p.2.length = 64) : Hold d g k D.lasts.length p wx.drew := by
  obtain ⟨h0, _⟩ := cells5 h.dev
  have ht := there_of_flat h.lasts (cellV_len h.ok) (i := p.1) (by simpa using hp1)
  exact ⟨h0, hw.at, hw.range, ht⟩
theorem settle_keep {S : Nat → Prop} {wx : World} {d g k : Nat} {vP vK : Value} {D : DevS} {p : Nat × List UInt8} (h : DevIs S wx d g vP vK D) (hw : WrAt wx k p) (hp1 : p.1 < D.lasts.length) (hp : p.2.length = 64) :
    Hold d g k D.lasts.length p (wx.drew.setCells g (p.1 * 64) (cellV p.2)) := by
  have hk : k ≠ g := by rintro rfl; have := h.lasts; rw [hw.row] at this; simp at this
  have hh := (h.setLasts hp1 hp).1
  have hw' : WrAt (wx.setRow g ((D.lasts.set p.1 p.2).map cellV).flatten.toArray) k p := ⟨(setRow_other _ _ _ _ hk).trans hw.row⟩
  rw [settle_set h hp1 hp]
  have := settle_hold hh hw' (by simpa using hp1) hp
  rw [List.length_set] at this
  exact this
set_option maxRecDepth 100000 in
set_option maxHeartbeats 4000000 in
theorem Sync_t {S : Nat → Prop} {w : World} {d : Nat} {D : DevS} (h : DevAt S w d D) :
    Calls Try.prog 17 #[.pointer (some ⟨d, 0, none⟩)] w fun e w' => e = .returned (I D.sync.2) ∧ DevAt S w' d D.sync.1 ∧ Chg (Mut S pts w) w w' := by
  obtain ⟨g, vP, vK, h⟩ := h
  have H := hid h
  obtain ⟨c0, c1, c2, c3, c4, cf⟩ := cells5 h.dev
  unfold DevS.sync
  cases hd : D.down
  · rw [hd] at c2
    rw [if_neg (by decide)]
    have A := act_t ⟨_, _, _, H.out⟩
    clear h hd c0 c1 c3 c4
    cases hact : D.act.2
    · rw [hact] at A
      rw [if_neg (by decide)]
      clear hact
      go_enter Try.func17, Try.ntmps17
      go_wp2_with fail
      refine A.mono ?_
      rintro e w' ⟨rfl, hd, hc⟩
      have HD := hid hd
      have HC := hid hc
      clear hd hc
      go_wp2_with fail
      go_ret
      exact ⟨rfl, HD.out, HC.out⟩
    · rw [hact] at A
      rw [if_pos rfl]
      clear hact
      generalize D.act.1 = E at *
      go_enter Try.func17, Try.ntmps17
      go_wp2_with fail
      refine A.mono ?_
      rintro e w2 ⟨rfl, ⟨g2, vP2, vK2, hd⟩, hc⟩
      obtain ⟨pa, pc, rfl, hp1, hp2⟩ := owns_shape hd.pend
      have hpl : (E.pend.map writeV).length = E.pend.length := List.length_map _
      have HPL := hid hpl
      rw [hpl] at hd
      have HD := hid hd
      have HC := hid hc
      obtain ⟨_, c1, _⟩ := cells5 hd.dev
      have hfew := hd.ok.few
      have hmost := hd.ok.most
      clear hd hc hpl hp1 hp2 c2 cf
      go_wp2_with fail
      go_loopw [23] (fun n wr => ∃ m : Nat, n = .int .i64 m ∧ m ≤ E.pend.length ∧ DevIs S wr d g2 (.slice pa E.pend.length pc) vK2 (E.settled m) ∧ Chg (Mut S pts w) w wr) (fun n _ => E.pend.length - (intOf n).toNat)
      case atStart => exact ⟨0, rfl, by omega, by rw [settled_zero]; exact HD.out, HC.out⟩
      case round =>
        obtain ⟨m, rfl, hm, hi, hc⟩ := hrel
        have A1 := hid hi
        have C1 := hid hc
        clear hi hc c1
        by_cases hlt : m < E.pend.length
        · obtain ⟨gp, cap, hv, hrg⟩ := owns_range A1.out.pend (writeV_len A1.out.ok) (i := m) (x := writeV E.pend[m]) (by rw [List.getElem?_map]; show E.pend[m]?.map _ = _; rw [List.getElem?_eq_getElem hlt]; rfl)
          have hlen : (List.map writeV (E.settled m).pend).length = E.pend.length := by rw [List.length_map]; rfl
          rw [hlen] at hv
          injection hv with e1 e2 e3
          subst e1 e3
          clear e2 hlen
          have HP := hid (HD.out.ok.pend _ (List.getElem_mem hlt))
          have HST := hid (settled_step E hlt)
          generalize E.pend[m] = p at *
          have hl92 := run_load92 hrg HP.out.2
          have q1 := run_alloc92
          have q2 := fun w => run_store92_new w p HP.out.2
          have AX := hid (A1.out.alloc (.cells (writeV p).toArray 92))
          have WX : Hid (WrAt (wr.alloc (.cells (writeV p).toArray 92)) wr.heap.size p) := ⟨heap_alloc_new _ _⟩
          have CX := hid (C1.out.alloc (.cells (writeV p).toArray 92))
          have CY := hid ((Chg.refl (fun _ => False) wr).alloc (.cells (writeV p).toArray 92))
          clear hrg
          go_upto_region 8 with fail
          clear hl92 q1 q2
          generalize wr.alloc (.cells (writeV p).toArray 92) = wx at *
          have hL : (E.settled m).lasts.length = E.lasts.length := settle_len _ _
          have hp0 := HP.out.1
          have hp1 : p.1 < (E.settled m).lasts.length := by rw [hL]; exact hp0
          have K1 := hid (settle_hold AX.out WX.out hp1 HP.out.2)
          have K3 := hid (settle_keep AX.out WX.out hp1 HP.out.2)
          have KS := hid (settle_set AX.out hp1 HP.out.2)
          rw [hL] at K1 K3
          have SL := hid (AX.out.setLasts hp1 HP.out.2)
          have hpl : (p.1 : Int) < (E.lasts.length : Int) := by omega
          have hpl0 : (0 : Int) ≤ (p.1 : Int) := by omega
          have l1 := cellL p.2 HP.out.2
          have l2 : (cellV p.2).length = 64 := by simp [cellV, HP.out.2]
          have l3 := cellO p.2
          have l4 := Try.underlying90
          clear hp1 hp0 hL
          go_region_held3 (fun w' => w'.cell? ⟨d, 0, none⟩ = some (.slice (some ⟨g2, 0, none⟩) E.lasts.length E.lasts.length) ∧ w'.cell? ⟨wr.heap.size, 0, none⟩ = some (I p.1) ∧ w'.rangeAt wr.heap.size 1 (cellV p.2) ∧ w'.there g2 (p.1 * 64) 64) (first | exact K1.out | exact K3.out | go_keep_ranges) (fail)
          rw [KS.out]
          go_wp2_with fail
          go_roundw
          case rel => exact ⟨m + 1, by go_num, by omega, by rw [HST.out]; exact SL.out.1.same (by rw [List.map_set]; rfl), CX.out.tr (by have := SL.out.2.drew; rw [List.map_set] at this; exact this)⟩
          case measure => simp [intOf]; omega
        · obtain rfl : m = E.pend.length := by omega
          rw [settled_all] at A1
          have X := clearP A1.out
          obtain ⟨c0, c1, c2, c3, c4, cf⟩ := cells5 A1.out.dev
          have HX := hid X
          clear X c0 c2 c3 c4
          go_wp2_with fail
          go_ret
          exact ⟨rfl, ⟨_, _, _, HX.out.1⟩, C1.out.tr HX.out.2⟩
  · rw [hd] at c2
    rw [if_pos rfl]
    clear h hd c0 c1 c3 c4
    go_enter Try.func17, Try.ntmps17
    go_wp2_with fail
    go_ret
    exact ⟨rfl, ⟨_, _, _, H.out⟩, Chg.refl _ _⟩
def DevS.on (D : DevS) : DevS := { D with down := false, fuse := 0 }
theorem On_nil (w : World) : Calls Try.prog 19 #[.pointer none] w fun e w' => e = .returned (.tuple #[]) ∧ w = w' := by
  go_enter Try.func19, Try.ntmps19
  go_wp2
  go_end0
  exact ⟨rfl, rfl⟩
theorem On_t {S : Nat → Prop} {w : World} {d : Nat} {D : DevS} (h : DevAt S w d D) : Calls Try.prog 19 #[.pointer (some ⟨d, 0, none⟩)] w fun e w' => e = .returned (.tuple #[]) ∧ DevAt S w' d D.on ∧ Chg (Mut S pts w) w w' := by
  obtain ⟨g, vP, vK, h⟩ := h
  have H := hid h
  obtain ⟨c0, c1, c2, c3, c4, cf⟩ := cells5 h.dev
  clear h c0 c1 c4
  go_enter Try.func19, Try.ntmps19
  go_wp2
  go_end0
  have e1 := heap_setCell_same w d 2 _ 87 (.bool false) H.out.dev
  have e2 := heap_setCell_same _ d 3 _ 87 (.int .i64 0) e1
  refine ⟨rfl, ⟨g, vP, vK, H.out.fields _ _ D.on rfl e2 (fun k hk => ?_) H.out.pend H.out.keep H.out.sp ⟨H.out.ok.cell, H.out.ok.pend, H.out.ok.most, Nat.zero_le _, H.out.ok.few⟩⟩, H.out.set (H.out.set (Chg.refl _ w) 2 _) 3 _⟩
  rw [heap_setCell_other _ _ _ _ hk, heap_setCell_other _ _ _ _ hk]
theorem Down_nil (w : World) : Calls Try.prog 28 #[.pointer none] w fun e w' => e = .returned (.bool false) ∧ w = w' := by
  go_enter Try.func28, Try.ntmps28
  go_wp2
  go_ret
  exact ⟨rfl, rfl⟩
theorem Down_t {S : Nat → Prop} {w : World} {d : Nat} {D : DevS} (h : DevAt S w d D) : Calls Try.prog 28 #[.pointer (some ⟨d, 0, none⟩)] w fun e w' => e = .returned (.bool D.down) ∧ w = w' := by
  obtain ⟨g, vP, vK, h⟩ := h
  obtain ⟨c0, c1, c2, c3, c4, cf⟩ := cells5 h.dev
  clear h c0 c1 c3 c4
  go_enter Try.func28, Try.ntmps28
  go_wp2
  go_ret
  exact ⟨rfl, rfl⟩
theorem Len_dnil (w : World) : Calls Try.prog 30 #[.pointer none] w fun e w' => e = .returned (I 0) ∧ w = w' := by
  go_enter Try.func30, Try.ntmps30
  go_wp2
  go_ret
  exact ⟨rfl, rfl⟩
theorem Len_d {S : Nat → Prop} {w : World} {d : Nat} {D : DevS} (h : DevAt S w d D) : Calls Try.prog 30 #[.pointer (some ⟨d, 0, none⟩)] w fun e w' => e = .returned (I D.lasts.length) ∧ w = w' := by
  obtain ⟨g, vP, vK, h⟩ := h
  obtain ⟨c0, c1, c2, c3, c4, cf⟩ := cells5 h.dev
  clear h c2 c1 c3 c4
  go_enter Try.func30, Try.ntmps30
  go_wp2
  go_ret
  exact ⟨rfl, rfl⟩
theorem Pending_nil (w : World) : Calls Try.prog 31 #[.pointer none] w fun e w' => e = .returned (I 0) ∧ w = w' := by
  go_enter Try.func31, Try.ntmps31
  go_wp2
  go_ret
  exact ⟨rfl, rfl⟩
theorem Pending_t {S : Nat → Prop} {w : World} {d : Nat} {D : DevS} (h : DevAt S w d D) : Calls Try.prog 31 #[.pointer (some ⟨d, 0, none⟩)] w fun e w' => e = .returned (I D.pend.length) ∧ w = w' := by
  obtain ⟨g, vP, vK, h⟩ := h
  obtain ⟨c0, c1, c2, c3, c4, cf⟩ := cells5 h.dev
  obtain ⟨pa, pc, rfl, hp1, hp2⟩ := owns_shape h.pend
  rw [List.length_map] at c1
  clear h c2 c0 c3 c4 hp1
  go_enter Try.func31, Try.ntmps31
  go_wp2
  go_ret
  exact ⟨rfl, rfl⟩
def DevS.arm (D : DevS) (n : Int) (keep : List Int) : DevS := { D with fuse := (max n 0).toNat, keep := keep }
theorem Arm_nil (n : Int) (xv : Value) (w : World) : Calls Try.prog 27 #[.pointer none, I n, xv] w fun e w' => e = .returned (.tuple #[]) ∧ w = w' := by
  go_enter Try.func27, Try.ntmps27
  go_wp2
  go_end0
  exact ⟨rfl, rfl⟩
theorem owns_anybase {w : World} {b : Nat} {e : TypeId} {size n : Nat} {v : Value} {xs : List Value} (h : w.ownsRow b e size v n xs) : w.ownsRow 0 e size v n xs := owns_base h (Nat.zero_le _)
theorem arm_end {S : Nat → Prop} {w w1 : World} {d g : Nat} {vP vK r : Value} {D : DevS} {xs : List Int} (h : DevIs S w d g vP vK D) (hn : New w w1) (ho : w1.ownsRow w.heap.size 3 1 r (xs.map I).length (xs.map I)) (n z : Int) (hz : z = max n 0) (hm : n ≤ 9223372036854775807) :
    DevAt S ((w1.setCell ⟨d, 3, none⟩ (.int .i64 z)).setCell ⟨d, 4, none⟩ r) d (D.arm n xs) ∧ Chg (Mut S pts w) w ((w1.setCell ⟨d, 3, none⟩ (.int .i64 z)).setCell ⟨d, 4, none⟩ r) := by
  have h1 := h.new hn
  have hz' : z = ((max n 0).toNat : Nat) := by omega
  have e1 := heap_setCell_same w1 d 3 _ 87 (.int .i64 z) h1.dev
  have e2 := heap_setCell_same _ d 4 _ 87 r e1
  have c : Chg (Mut S pts w) w w1 := hn.mono (fun _ _ e => e.elim)
  refine ⟨⟨g, vP, r, h1.fields vP r (D.arm n xs) rfl ?_ (fun k hk => ?_) h1.pend (owns_anybase ho) h1.sp ⟨h.ok.cell, h.ok.pend, h.ok.most, ?_, h.ok.few⟩⟩, h.set (h.set c 3 _) 4 _⟩
  · rw [e2, hz']; rfl
  · rw [heap_setCell_other _ _ _ _ hk, heap_setCell_other _ _ _ _ hk]
  · show (max n 0).toNat ≤ _; omega
theorem Arm_t {S : Nat → Prop} {w : World} {d : Nat} {D : DevS} (h : DevAt S w d D) (n : Int) (hm : n ≤ 9223372036854775807) (xv : Value) (xs : List Int) (hx : RdI w xv xs) (hl : xs.length * 8 ≤ 140737488355328) :
    Calls Try.prog 27 #[.pointer (some ⟨d, 0, none⟩), I n, xv] w fun e w' => e = .returned (.tuple #[]) ∧ DevAt S w' d (D.arm n xs) ∧ Chg (Mut S pts w) w w' := by
  obtain ⟨g, vP, vK, h⟩ := h
  have H := hid h
  have HX := hid hx
  have HM := hid hm
  have CL := hid (cloneI_t w xv (xs.map I) hx (by intro u hu; obtain ⟨z, _, rfl⟩ := List.mem_map.1 hu; rfl) (by simpa using hl))
  obtain ⟨c0, c1, c2, c3, c4, cf⟩ := cells5 h.dev
  have LD := hid (lt_of_block h.dev)
  clear h hx c0 c1 c2
  by_cases hneg : n < 0
  all_goals
    go_enter Try.func27, Try.ntmps27
    go_wp2_with fail
    refine CL.out.mono ?_
    rintro e w1 ⟨r, rfl, ho, hn⟩
    obtain ⟨ra, rc, rfl, _, _⟩ := owns_shape ho
    have HO := hid ho
    have HN := hid hn
    have k3 := HN.out.cell c3 (fun e => e)
    have k4 := HN.out.cell c4 (fun e => e)
    have D1 := hid (H.out.new HN.out)
    have kf := (cells5 D1.out.dev).2.2.2.2.2
    clear ho hn
    go_wp2_with fail
    go_end0
    rw [List.length_map] at HO
    first
      | exact ⟨rfl, arm_end H.out HN.out (by rw [List.length_map]; exact HO.out) n 0 (by omega) HM.out⟩
      | exact ⟨rfl, arm_end H.out HN.out (by rw [List.length_map]; exact HO.out) n n (by omega) HM.out⟩
end Go.Proofs.Ytjlmbmamkhneiaa
