/- The walk of step. -/
import Derived.Test.YtjlmbmamkhneiaaCut
import Derived.Deep.RegionHeld3
import Derived.Deep.RegionLaw
namespace Go.Proofs.Ytjlmbmamkhneiaa
open Go Go.RowKit
set_option linter.unusedVariables false
/-- What stands where in the midst of a step: both devices, the step's own box and its two slices. -/
structure SI (S : Nat → Prop) (w0 w : World) (d r k : Nat) (z0 z1 z2 : Int) (vb vk : Value) (b : List UInt8) (ks : List Int) (Dp Dr : DevS) : Prop where
  dev : DevAt S w d Dp
  ref : RefAt S w r Dr
  box : w.heap[k]? = some (.cells #[I z0, I z1, I z2, vb, vk] 39 (0, 0))
  rb : Rd w vb b
  rk : RdI w vk ks
  hbn : b ≠ [] → ∀ g, vb.ownBlock = some g → ¬ S g
  hkn : ks ≠ [] → ∀ g, vk.ownBlock = some g → ¬ S g
  fr : Chg S w0 w
  hS : ∀ k, w.heap.size ≤ k → S k
section
variable {S : Nat → Prop} {w0 w w' : World} {d r k : Nat} {z0 z1 z2 : Int} {vb vk : Value} {b : List UInt8} {ks : List Int} {Dp Dr D' : DevS}
theorem SI.new (h : SI S w0 w d r k z0 z1 z2 vb vk b ks Dp Dr) (c : New w w') : SI S w0 w' d r k z0 z1 z2 vb vk b ks Dp Dr :=
  ⟨h.dev.new c, h.ref.new c, heap_alloc_keep h.box c, rd_chg h.rb c (fun _ _ _ e => e), rdI_chg h.rk c (fun _ _ _ e => e), h.hbn, h.hkn, h.fr.trans c (fun _ _ e => e.elim), fun k hk => h.hS k (Nat.le_trans c.size hk)⟩
theorem SI.drew (h : SI S w0 w d r k z0 z1 z2 vb vk b ks Dp Dr) : SI S w0 w.drew d r k z0 z1 z2 vb vk b ks Dp Dr := h.new ((Chg.refl _ w).drew)
theorem SI.prog (h : SI S w0 w d r k z0 z1 z2 vb vk b ks Dp Dr) (hd : DevAt S w' d D') (c : Chg (Mut S pts w) w w') : SI S w0 w' d r k z0 z1 z2 vb vk b ks D' Dr := by
  obtain ⟨a1, a2, a3, a4, a5, hr⟩ := h.ref
  exact ⟨hd, ⟨a1, a2, a3, a4, a5, hr.chg c (by decide)⟩, c.stays h.box (by decide), rd_chg h.rb c (fun hne g hg e => h.hbn hne g hg e.1), rdI_chg h.rk c (fun hne g hg e => h.hkn hne g hg e.1), h.hbn, h.hkn, h.fr.trans c (fun _ _ e => e.1), fun k hk => h.hS k (Nat.le_trans c.size hk)⟩
theorem SI.refd (h : SI S w0 w d r k z0 z1 z2 vb vk b ks Dp Dr) (hr : RefAt S w' r D') (c : Chg (Mut S rts w) w w') : SI S w0 w' d r k z0 z1 z2 vb vk b ks Dp D' := by
  obtain ⟨a1, a2, a3, hd⟩ := h.dev
  exact ⟨⟨a1, a2, a3, hd.chg c (by decide)⟩, hr, c.stays h.box (by decide), rd_chg h.rb c (fun hne g hg e => h.hbn hne g hg e.1), rdI_chg h.rk c (fun hne g hg e => h.hkn hne g hg e.1), h.hbn, h.hkn, h.fr.trans c (fun _ _ e => e.1), fun k hk => h.hS k (Nat.le_trans c.size hk)⟩
theorem SI.two (h : SI S w0 w d r k z0 z1 z2 vb vk b ks Dp Dr) : w.cell? ⟨k, 1, none⟩ = some (I z1) ∧ w.cell? ⟨k, 3, none⟩ = some vb := ⟨(cells5 h.box).2.1, (cells5 h.box).2.2.2.1⟩
end
theorem act_pend (D : DevS) : D.act.1.pend.length ≤ D.pend.length := by
  unfold DevS.act DevS.off
  split
  · exact Nat.le_refl _
  · split
    · exact Nat.le_refl _
    · split <;> simp
theorem off_pend (D : DevS) (xs : List Int) : (D.off xs).pend.length ≤ D.pend.length := by
  unfold DevS.off
  split <;> simp
theorem write_pend (D : DevS) (i : Int) (b : List UInt8) : (D.write i b).1.pend.length ≤ D.pend.length + 1 := by
  have h := act_pend D
  unfold DevS.write
  split
  · simp
  · split
    · simp
    · split
      · simp [DevS.push]; omega
      · show D.act.1.pend.length ≤ _; omega
theorem sync_pend (D : DevS) : D.sync.1.pend.length ≤ D.pend.length := by
  have h := act_pend D
  unfold DevS.sync
  split
  · exact Nat.le_refl _
  · split
    · simp [DevS.synced]
    · exact h
/-- What an act makes of a device. -/
def DevS.play (D : DevS) (z0 z1 z2 : Int) (b : List UInt8) (ks : List Int) : DevS :=
  if z0 = 0 ∨ z0 = 1 then (D.write z1 b).1 else if z0 = 2 then D.sync.1 else if z0 = 3 then D.off ks else if z0 = 4 then D.on else if z0 = 5 then D.arm z2 ks else D
theorem play0 (D : DevS) (z1 z2 : Int) (b : List UInt8) (ks : List Int) : D.play 0 z1 z2 b ks = (D.write z1 b).1 := rfl
theorem play1 (D : DevS) (z1 z2 : Int) (b : List UInt8) (ks : List Int) : D.play 1 z1 z2 b ks = (D.write z1 b).1 := rfl
theorem playx (D : DevS) {z0 : Int} (z1 z2 : Int) (b : List UInt8) (ks : List Int) (e0 : ¬ z0 = 0) (e1 : ¬ z0 = 1) (e2 : ¬ z0 = 2) (e3 : ¬ z0 = 3) (e4 : ¬ z0 = 4) (e5 : ¬ z0 = 5) : D.play z0 z1 z2 b ks = D := by
  unfold DevS.play; rw [if_neg (by omega), if_neg e2, if_neg e3, if_neg e4, if_neg e5]
set_option maxRecDepth 100000 in
set_option maxHeartbeats 16000000 in
theorem step_f {S : Nat → Prop} {w : World} {d r : Nat} {D : DevS} (hd : DevAt S w d D) (hr : RefAt S w r D) (hS : ∀ k, w.heap.size ≤ k → S k) (hroom : D.pend.length < 1048576) (z0 z1 z2 : Int) (hz2 : z2 ≤ 9223372036854775807) (vb vk : Value) (b : List UInt8) (ks : List Int) (hb : Rd w vb b) (hk : RdI w vk ks)
    (hbn : b ≠ [] → ∀ k, vb.ownBlock = some k → ¬ S k) (hkn : ks ≠ [] → ∀ k, vk.ownBlock = some k → ¬ S k) :
    Calls Try.prog 23 #[.pointer (some ⟨d, 0, none⟩), .pointer (some ⟨r, 0, none⟩), .agg #[I z0, I z1, I z2, vb, vk]] w fun e w' => e = .returned (.bool true) ∧ Chg S w w' ∧ ∃ D', DevAt S w' d D' ∧ RefAt S w' r D' ∧ D'.pend.length ≤ D.pend.length + 1 ∧ ∃ b1 k1, k1.length ≤ 12 ∧ D' = D.play z0 z1 z2 b1 k1 := by
  have HD := hid hd
  have HR := hid hr
  have HS := hid hS
  have HB := hid hb
  have HK := hid hk
  have HBN := hid hbn
  have HKN := hid hkn
  clear hd hr hS hb hk hbn hkn
  go_enter Try.func23, Try.ntmps23
  go_wp2_with fail
  have C := cutAct_t (w.alloc (.cells #[I z0, I z1, I z2, vb, vk] 39)) z0 z1 z2 vb vk b ks (HB.out.alloc _) (HK.out.alloc _)
  refine C.mono ?_
  rintro e w1 ⟨vb', vk', rfl, eb, ek, hb', hk', hn⟩
  have N1 := hid (((Chg.refl (fun _ => False) w).alloc (.cells #[I z0, I z1, I z2, vb, vk] 39)).trans hn (fun _ _ e => e))
  have N1' := hid hn
  have K1 := hid ((hn.block w.heap.size (by simp) (fun e => e)).trans (heap_alloc_new w (.cells #[I z0, I z1, I z2, vb, vk] 39)))
  obtain ⟨c0, c1, c2, c3, c4, cf⟩ := cells5 K1.out
  obtain ⟨b1, hb1⟩ : ∃ b1, b1 = b.take 70 := ⟨_, rfl⟩
  obtain ⟨k1, hk1⟩ : ∃ k1, k1 = ks.take 12 := ⟨_, rfl⟩
  have NB := hid (show b1 ≠ [] → b ≠ [] from fun h e => h (by rw [hb1, e]; rfl))
  have NK := hid (show k1 ≠ [] → ks ≠ [] from fun h e => h (by rw [hk1, e]; rfl))
  have LK := hid (show k1.length ≤ 12 by rw [hk1, List.length_take]; omega)
  rw [← hb1] at hb'
  rw [← hk1] at hk'
  obtain ⟨ba, bc, rfl⟩ := hb'.shape
  obtain ⟨ka, kc, rfl⟩ := hk'.shape
  rw [List.length_map] at eb ek hb' hk'
  have EB := hid eb
  have EK := hid ek
  have RB := hid hb'
  have RK := hid hk'
  rw [List.length_map, List.length_map]
  clear C hn eb ek hb' hk' hb1 hk1
  go_upto_region 2 with fail
  generalize hw2 : (((((w1.setCell ⟨w.heap.size, 0, none⟩ (.int .i64 z0)).setCell ⟨w.heap.size, 1, none⟩ (.int .i64 z1)).setCell ⟨w.heap.size, 2, none⟩ (.int .i64 z2)).setCell ⟨w.heap.size, 3, none⟩ (.slice ba b1.length bc)).setCell ⟨w.heap.size, 4, none⟩ (.slice ka k1.length kc)) = w2
  have H2 : SI S w w2 d r w.heap.size z0 z1 z2 (.slice ba b1.length bc) (.slice ka k1.length kc) b1 k1 D D := by
    have cw : Chg (fun x => x = w.heap.size) w1 w2 := by
      rw [← hw2]
      exact Chg.setCell (S := fun x => x = w.heap.size) (p := ⟨w.heap.size, 4, none⟩) (Chg.setCell (S := fun x => x = w.heap.size) (p := ⟨w.heap.size, 3, none⟩) (Chg.setCell (S := fun x => x = w.heap.size) (p := ⟨w.heap.size, 2, none⟩) (Chg.setCell (S := fun x => x = w.heap.size) (p := ⟨w.heap.size, 1, none⟩) (Chg.setCell (S := fun x => x = w.heap.size) (p := ⟨w.heap.size, 0, none⟩) (Chg.refl _ w1) (fun _ => rfl) _) (fun _ => rfl) _) (fun _ => rfl) _) (fun _ => rfl) _) (fun _ => rfl) _
    have n2 : New w w2 := N1.out.trans cw (fun k hk e => by omega)
    have ca : Chg (fun x => x = w.heap.size) (w.alloc (.cells #[I z0, I z1, I z2, vb, vk] 39)) w2 := (N1'.out.mono (fun _ _ e => e.elim)).trans cw (fun _ _ e => e)
    have hbx : w2.heap[w.heap.size]? = some (.cells #[I z0, I z1, I z2, .slice ba b1.length bc, .slice ka k1.length kc] 39 (0, 0)) := by
      rw [← hw2]
      exact heap_setCell_same _ _ 4 _ 39 _ (heap_setCell_same _ _ 3 _ 39 _ (heap_setCell_same _ _ 2 _ 39 _ (heap_setCell_same _ _ 1 _ 39 _ (heap_setCell_same _ _ 0 _ 39 _ K1.out))))
    refine ⟨HD.out.new n2, HR.out.new n2, hbx, ?_, ?_, fun h g hg => HBN.out (NB.out h) g (by rw [← EB.out]; exact hg), fun h g hg => HKN.out (NK.out h) g (by rw [← EK.out]; exact hg), n2.mono (fun _ _ e => e.elim), fun k hk => HS.out k (Nat.le_trans n2.size hk)⟩
    · exact rd_chg RB.out ca (fun h g hg e => by have := rd_lt HB.out (NB.out h) (k := g) (by rw [← EB.out]; exact hg); omega)
    · exact rdI_chg RK.out ca (fun h g hg e => by have := rdI_lt HK.out (NK.out h) (k := g) (by rw [← EK.out]; exact hg); omega)
  replace H2 := hid H2
  generalize w.heap.size = k at *
  clear hw2 HD HR HB HK N1 N1' K1 RB RK EB EK NB NK HBN HKN HS c0 c1 c2 c3 c4 cf
  obtain ⟨c0, c1, c2, c3, c4, cf⟩ := cells5 H2.out.box
  have LKO := LK.out
  by_cases e0 : z0 = 0
  · subst e0
    go_wp2_with fail
    have W1 : Hid (∀ w' , SI S w w' d r k 0 z1 z2 (.slice ba b1.length bc) (.slice ka k1.length kc) b1 k1 D D → Calls Try.prog 16 #[.pointer (some ⟨d, 0, none⟩), I z1, .slice ba b1.length bc] w' fun e w'' => e = .returned (I (D.write z1 b1).2) ∧ SI S w w'' d r k 0 z1 z2 (.slice ba b1.length bc) (.slice ka k1.length kc) b1 k1 (D.write z1 b1).1 D) :=
      fun w' h => by
        have q := Write_t h.dev h.hS z1 (.slice ba b1.length bc) b1 h.rb (fun hh g hg e => h.hbn hh g hg e.1) hroom
        exact q.mono fun e w'' hh => ⟨hh.1, h.prog hh.2.1 hh.2.2⟩
    have W2 : Hid (∀ w' , SI S w w' d r k 0 z1 z2 (.slice ba b1.length bc) (.slice ka k1.length kc) b1 k1 (D.write z1 b1).1 D → Calls Try.prog 56 #[.pointer (some ⟨r, 0, none⟩), I z1, .slice ba b1.length bc] w' fun e w'' => e = .returned (I (D.write z1 b1).2) ∧ SI S w w'' d r k 0 z1 z2 (.slice ba b1.length bc) (.slice ka k1.length kc) b1 k1 (D.write z1 b1).1 (D.write z1 b1).1) :=
      fun w' h => by
        have q := Write_r h.ref h.hS z1 (.slice ba b1.length bc) b1 h.rb (fun hh g hg e => h.hbn hh g hg e.1) hroom
        exact q.mono fun e w'' hh => ⟨hh.1, h.refd hh.2.1 hh.2.2⟩
    have WP := hid (write_pend D z1 b1)
    have WE := hid (play0 D z1 z2 b1 k1)
    generalize (D.write z1 b1).1 = D1 at *
    generalize (D.write z1 b1).2 = cc at *
    clear c0 c2 c4 cf LKO hroom
    go_region_held3 (fun w' => w'.cell? ⟨k, 1, none⟩ = some (I z1) ∧ w'.cell? ⟨k, 3, none⟩ = some (.slice ba b1.length bc))
      (first | exact H2.out.two | exact H2.out.drew.two | exact H3.out.two | exact H4.out.two | go_keep)
      (first
        | (go_at_call 16; refine (W1.out _ H2.out.drew).mono ?_; rintro e w3 ⟨rfl, hh⟩; have H3 := hid hh; clear hh)
        | (go_at_call 56; refine (W2.out _ H3.out).mono ?_; rintro e w4 ⟨rfl, hh⟩; have H4 := hid hh; clear hh))
    go_wp2_with fail
    go_ret
    exact ⟨rfl, H4.out.fr, _, H4.out.dev, H4.out.ref, WP.out, b1, k1, LK.out, WE.out.symm⟩
  by_cases e1 : z0 = 1
  · subst e1
    go_wp2_with fail
    have W1 : Hid (∀ w' , SI S w w' d r k 1 z1 z2 (.slice ba b1.length bc) (.slice ka k1.length kc) b1 k1 D D → Calls Try.prog 16 #[.pointer (some ⟨d, 0, none⟩), I z1, .slice ba b1.length bc] w' fun e w'' => e = .returned (I (D.write z1 b1).2) ∧ SI S w w'' d r k 1 z1 z2 (.slice ba b1.length bc) (.slice ka k1.length kc) b1 k1 (D.write z1 b1).1 D) :=
      fun w' h => by
        have q := Write_t h.dev h.hS z1 (.slice ba b1.length bc) b1 h.rb (fun hh g hg e => h.hbn hh g hg e.1) hroom
        exact q.mono fun e w'' hh => ⟨hh.1, h.prog hh.2.1 hh.2.2⟩
    have W2 : Hid (∀ w' , SI S w w' d r k 1 z1 z2 (.slice ba b1.length bc) (.slice ka k1.length kc) b1 k1 (D.write z1 b1).1 D → Calls Try.prog 56 #[.pointer (some ⟨r, 0, none⟩), I z1, .slice ba b1.length bc] w' fun e w'' => e = .returned (I (D.write z1 b1).2) ∧ SI S w w'' d r k 1 z1 z2 (.slice ba b1.length bc) (.slice ka k1.length kc) b1 k1 (D.write z1 b1).1 (D.write z1 b1).1) :=
      fun w' h => by
        have q := Write_r h.ref h.hS z1 (.slice ba b1.length bc) b1 h.rb (fun hh g hg e => h.hbn hh g hg e.1) hroom
        exact q.mono fun e w'' hh => ⟨hh.1, h.refd hh.2.1 hh.2.2⟩
    have WP := hid (write_pend D z1 b1)
    have WE := hid (play1 D z1 z2 b1 k1)
    generalize (D.write z1 b1).1 = D1 at *
    generalize (D.write z1 b1).2 = cc at *
    clear c0 c2 c4 cf LKO hroom
    go_region_held3 (fun w' => w'.cell? ⟨k, 1, none⟩ = some (I z1) ∧ w'.cell? ⟨k, 3, none⟩ = some (.slice ba b1.length bc))
      (first | exact H2.out.two | exact H2.out.drew.two | exact H3.out.two | exact H4.out.two | go_keep)
      (first
        | (go_at_call 16; refine (W1.out _ H2.out.drew).mono ?_; rintro e w3 ⟨rfl, hh⟩; have H3 := hid hh; clear hh)
        | (go_at_call 56; refine (W2.out _ H3.out).mono ?_; rintro e w4 ⟨rfl, hh⟩; have H4 := hid hh; clear hh))
    go_wp2_with fail
    go_ret
    exact ⟨rfl, H4.out.fr, _, H4.out.dev, H4.out.ref, WP.out, b1, k1, LK.out, WE.out.symm⟩
  by_cases e2 : z0 = 2
  · subst e2
    go_wp2_with fail
    refine (Sync_t H2.out.dev).mono ?_
    rintro e w3 ⟨rfl, hd, hc⟩
    have H3 := hid (H2.out.prog hd hc)
    clear hd hc
    go_wp2_with fail
    refine (Sync_r H3.out.ref).mono ?_
    rintro e w4 ⟨rfl, hd, hc⟩
    have H4 := hid (H3.out.refd hd hc)
    clear hd hc
    go_wp2_with fail
    go_ret
    exact ⟨rfl, H4.out.fr, _, H4.out.dev, H4.out.ref, Nat.le_succ_of_le (sync_pend _), b1, k1, LK.out, rfl⟩
  by_cases e3 : z0 = 3
  · subst e3
    go_wp2_with fail
    refine (Off_t H2.out.dev _ k1 H2.out.rk (fun h g hg e => H2.out.hkn h g hg e.1)).mono ?_
    rintro e w3 ⟨rfl, hd, hc⟩
    have H3 := hid (H2.out.prog hd hc)
    clear hd hc c0 c1 c2 c3 c4 cf
    obtain ⟨c0, c1, c2, c3, c4, cf⟩ := cells5 H3.out.box
    go_wp2_with fail
    refine (Off_r H3.out.ref _ k1 H3.out.rk (fun h g hg e => H3.out.hkn h g hg e.1)).mono ?_
    rintro e w4 ⟨rfl, hd, hc⟩
    have H4 := hid (H3.out.refd hd hc)
    clear hd hc
    go_wp2_with fail
    go_ret
    exact ⟨rfl, H4.out.fr, _, H4.out.dev, H4.out.ref, Nat.le_succ_of_le (off_pend _ _), b1, k1, LK.out, rfl⟩
  by_cases e4 : z0 = 4
  · subst e4
    go_wp2_with fail
    refine (On_t H2.out.dev).mono ?_
    rintro e w3 ⟨rfl, hd, hc⟩
    have H3 := hid (H2.out.prog hd hc)
    clear hd hc
    go_wp2_with fail
    refine (On_r H3.out.ref).mono ?_
    rintro e w4 ⟨rfl, hd, hc⟩
    have H4 := hid (H3.out.refd hd hc)
    clear hd hc
    go_wp2_with fail
    go_ret
    exact ⟨rfl, H4.out.fr, _, H4.out.dev, H4.out.ref, Nat.le_succ _, b1, k1, LK.out, rfl⟩
  by_cases e5 : z0 = 5
  · subst e5
    go_wp2_with fail
    refine (Arm_t H2.out.dev z2 hz2 _ k1 H2.out.rk (by omega)).mono ?_
    rintro e w3 ⟨rfl, hd, hc⟩
    have H3 := hid (H2.out.prog hd hc)
    clear hd hc c0 c1 c2 c3 c4 cf
    obtain ⟨c0, c1, c2, c3, c4, cf⟩ := cells5 H3.out.box
    go_wp2_with fail
    refine (Arm_r H3.out.ref z2 hz2 _ k1 H3.out.rk (fun h g hg e => H3.out.hkn h g hg e.1) (by omega)).mono ?_
    rintro e w4 ⟨rfl, hd, hc⟩
    have H4 := hid (H3.out.refd hd hc)
    clear hd hc
    go_wp2_with fail
    go_ret
    exact ⟨rfl, H4.out.fr, _, H4.out.dev, H4.out.ref, Nat.le_succ _, b1, k1, LK.out, rfl⟩
  go_wp2_with fail
  go_ret
  exact ⟨rfl, H2.out.fr, _, H2.out.dev, H2.out.ref, Nat.le_succ _, b1, k1, LK.out, (playx D z1 z2 b1 k1 e0 e1 e2 e3 e4 e5).symm⟩
theorem step_b {S : Nat → Prop} {w : World} {d r : Nat} {D : DevS} (hd : DevAt S w d D) (hr : RefAt S w r D) (hS : ∀ k, w.heap.size ≤ k → S k) (hroom : D.pend.length < 1048576) (z0 z1 z2 : Int) (hz2 : z2 ≤ 9223372036854775807) (vb vk : Value) (b : List UInt8) (ks : List Int) (hb : Rd w vb b) (hk : RdI w vk ks)
    (hbn : b ≠ [] → ∀ k, vb.ownBlock = some k → ¬ S k) (hkn : ks ≠ [] → ∀ k, vk.ownBlock = some k → ¬ S k) :
    Calls Try.prog 23 #[.pointer (some ⟨d, 0, none⟩), .pointer (some ⟨r, 0, none⟩), .agg #[I z0, I z1, I z2, vb, vk]] w fun e w' => e = .returned (.bool true) ∧ Chg S w w' ∧ ∃ D', DevAt S w' d D' ∧ RefAt S w' r D' ∧ D'.pend.length ≤ D.pend.length + 1 :=
  (step_f hd hr hS hroom z0 z1 z2 hz2 vb vk b ks hb hk hbn hkn).mono fun _ _ ⟨h1, h2, D', h3, h4, h5, _⟩ => ⟨h1, h2, D', h3, h4, h5⟩
end Go.Proofs.Ytjlmbmamkhneiaa
