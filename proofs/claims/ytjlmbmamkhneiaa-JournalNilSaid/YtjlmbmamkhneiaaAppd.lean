/- The walks of Journal.Append and Sync where no power goes. -/
import Derived.Test.YtjlmbmamkhneiaaPut
namespace Go.Proofs.Ytjlmbmamkhneiaa
open Go Go.RowKit
set_option maxRecDepth 100000
abbrev jts : List TypeId := [102, 87, 90, 92]
theorem needZ_nat (n : Nat) (h : n ≤ 1024) : needZ (n : Int) = ((n + 82) / 64 : Nat) := by
  unfold needZ; rw [if_neg (by omega)]; omega
theorem sync_t {S : Nat → Prop} (w : World) (j d size gen term used many : Nat) (D : DevS) (h : JIs w j d size gen term used many) (hd : DevAt S w d D) (hdn : D.down = false) (hf : D.fuse = 0) :
    Calls Try.prog 38 #[.pointer (some ⟨j, 0, none⟩)] w fun e w' => e = .returned (I 0) ∧ DevAt S w' d D.synced ∧ Chg (Mut S pts w) w w' := by
  have hs : D.sync = (D.synced, 0) := by
    have ha : D.act = (D, true) := by unfold DevS.act; rw [if_pos hf]
    unfold DevS.sync; rw [if_neg (by simp [hdn]), ha, if_pos rfl]
  have T := hid (Sync_t hd)
  rw [hs] at T
  obtain ⟨c0, c1, c2, c3, c4, c5, c6, cf⟩ := cells7 h
  clear h hd hs c1 c2 c3 c4 c5 cf
  go_enter Try.func38, Try.ntmps38
  go_wp2_with fail
  refine T.out.mono ?_
  rintro e w1 ⟨rfl, hd, hc⟩
  have D1 := hid hd
  have C1 := hid hc
  clear hd hc
  go_wp2_with fail
  refine (jtold_t _ _).mono ?_
  rintro e w2 ⟨rfl, rfl⟩
  go_wp2_with fail
  go_ret
  exact ⟨rfl, D1.out, C1.out⟩
theorem appendFull_t (w : World) (j d size gen term used many : Nat) (h : JIs w j d size gen term used many) (hs : size ≤ 1000) (hu : used ≤ size) (sa : Option Addr) (sc n : Nat) (hb : n ≤ 1024) (hfull : size - used < (n + 82) / 64) :
    Calls Try.prog 36 #[.pointer (some ⟨j, 0, none⟩), .slice sa n sc] w fun e w' => e = .returned (I 4) ∧ ∃ k, w' = w.drewN k := by
  have HJ := hid h
  have hnz := needZ_nat n hb
  obtain ⟨c0, c1, c2, c3, c4, c5, c6, cf⟩ := cells7 h
  clear h c0 c1 c2 c3 c4 c5 cf
  generalize (n + 82) / 64 = m at *
  go_enter Try.func36, Try.ntmps36
  go_wp2_with fail
  refine (need_t n w).mono ?_
  rintro e w1 ⟨rfl, rfl⟩
  rw [hnz]
  go_wp2_with fail
  refine (jroom_t w j d size gen term used many HJ.out hs hu).mono ?_
  rintro e w2 ⟨rfl, nd, rfl⟩
  generalize size - used = room at *
  go_wp2_with fail
  go_ret
  exact ⟨rfl, nd, rfl⟩
theorem JIs.used {w : World} {j d size gen term used many : Nat} (h : JIs w j d size gen term used many) (z : Int) (u : Nat) (hz : z = u) : JIs (w.setCell ⟨j, 4, none⟩ (.int .i64 z)).drew j d size gen term u many := by
  subst hz
  exact heap_setCell_same w j 4 _ 102 _ h
theorem JIs.many {w : World} {j d size gen term used many : Nat} (h : JIs w j d size gen term used many) (z : Int) (u : Nat) (hz : z = u) : JIs (w.setCell ⟨j, 5, none⟩ (.int .i64 z)) j d size gen term used u := by
  subst hz
  exact heap_setCell_same w j 5 _ 102 _ h
theorem JIs.far {S : Nat → Prop} {w : World} {j d size gen term used many : Nat} (h : JIs w j d size gen term used many) {e : Nat} {D : DevS} (hd : DevAt S w e D) (i : Nat) (x : Value) : DevAt S (w.setCell ⟨j, i, none⟩ x) e D :=
  hd.chg (T := fun _ => True) (ts := [102]) ((Chg.refl _ w).setCell (p := ⟨j, i, none⟩) (fun _ => Mut.of trivial h (by simp)) x) (by simp)
set_option maxHeartbeats 4000000 in
theorem append_t {S : Nat → Prop} (w : World) (j d size gen term used many : Nat) (D : DevS) (h : JIs w j d size gen term used many) (hj : S j) (hd : DevAt S w d D) (hS : ∀ k, w.heap.size ≤ k → S k) (hdn : D.down = false) (hf : D.fuse = 0) (hp : D.pend.length ≤ 1000000)
    (hs : 2 + 2 * size ≤ D.lasts.length) (hu : used ≤ size) (hg : gen < 4294967296) (hn : many < 4294967295) (ht : term < 4294967296) (sv : Value) (b : List UInt8) (hr : Rd w sv b) (hsb : ∀ g, sv.ownBlock = some g → g < w.heap.size) (hb : b.length ≤ 1024) (hfit : (b.length + 82) / 64 ≤ size - used) :
    Calls Try.prog 36 #[.pointer (some ⟨j, 0, none⟩), sv] w fun e w' => e = .returned (I 0) ∧ JIs w' j d size gen term (used + (b.length + 82) / 64) (many + 1) ∧ DevAt S w' d (putD D (2 + gen % 2 * size + used) (OutP.frBytes gen many term b) ((b.length + 82) / 64)) ∧ Chg (Mut S jts w) w w' := by
  have hmost := hd.okk.most
  have hfst : 2 + gen % 2 * size + size ≤ D.lasts.length := by
    have : gen % 2 = 0 ∨ gen % 2 = 1 := by omega
    rcases this with e | e <;> rw [e] <;> omega
  have F1 : Hid (∀ w', JIs w' j d size gen term used many → Calls Try.prog 68 #[.pointer (some ⟨j, 0, none⟩), .int .u32 gen] w' fun e w'' => e = .returned (I ((2 + gen % 2 * size : Nat) : Int)) ∧ w' = w'') := hid fun w' h' => jfirst_t w' j d size gen term used many gen h' (by omega) hg
  generalize 2 + gen % 2 * size = fst at *
  have P1 : Hid (∀ nd, Calls Try.prog 67 #[.pointer (some ⟨j, 0, none⟩), .int .i64 (fst + used : Nat), .agg #[.int .u32 gen, .int .u32 many, .int .u32 term, sv]] (w.drewN nd) fun e w' => e = .returned (.int .i64 0) ∧ DevAt S w' d (putD D (fst + used) (OutP.frBytes gen many term b) ((b.length + 82) / 64)) ∧ Chg (Mut S pts w) w w') := hid fun nd =>
    (put_t (w.drewN nd) j d size gen term used many D h (hd.drawn nd) hS hdn hf hp (fst + used) gen many term hg (by omega) ht sv b (hr.move fun _ _ _ => rfl) hsb hb (by omega) (by omega)).mono fun _ _ ⟨h1, h2, h3⟩ => ⟨h1, h2, ((Chg.refl (Mut S pts w) w).drewN nd).tr h3⟩
  have hnz := needZ_nat b.length hb
  have HJ := hid h
  obtain ⟨sa, sc, hsv⟩ := hr.shape
  rw [List.length_map] at hsv
  subst hsv
  obtain ⟨c0, c1, c2, c3, c4, c5, c6, cf⟩ := cells7 h
  have HN : Hid (∀ w, Calls Try.prog 32 #[I b.length] w fun e w' => e = .returned (I ((b.length + 82) / 64 : Nat)) ∧ w = w') := hid fun w => by have := need_t b.length w; rw [hnz] at this; exact this
  clear h hd hS hr hsb hnz c0 c1
  generalize hm : (b.length + 82) / 64 = m at *
  have HM := hid hm
  clear hm
  go_enter Try.func36, Try.ntmps36
  go_wp2_with fail
  refine (HN.out w).mono ?_
  rintro e w1 ⟨rfl, rfl⟩
  go_wp2_with fail
  refine (jroom_t w j d size gen term used many HJ.out (by omega) hu).mono ?_
  rintro e w2 ⟨rfl, nd, rfl⟩
  generalize hroom : size - used = room at *
  have HRoom := hid hroom
  clear hroom
  have hle : (m : Int) ≤ (room : Int) := by omega
  have eadd : IntKind.i64.wrap ((fst : Int) + used) = ((fst + used : Nat) : Int) := by rw [IntKind.wrap_i64]; have := HRoom.out; omega
  have emany : IntKind.u32.wrap (many : Int) = (many : Int) := by rw [IntKind.wrap_u32]; omega
  go_wp2_with fail
  have PD := hid (P1.out (nd + 1))
  rw [show w.drewN (nd + 1) = (w.drewN nd).drew from rfl] at PD
  have JW := hid (show JIs (w.drewN nd) j d size gen term used many from HJ.out)
  have JD := hid (show JIs (w.drewN nd).drew j d size gen term used many from HJ.out)
  have hw1 : (w.drewN nd).heap = w.heap := rfl
  generalize w.drewN nd = W1 at *
  obtain ⟨a0, a1, a2, a3, a4, a5, a6, af⟩ := cells7 JW.out
  clear a0 a1 a6 c2 c3 c4 c5 c6 cf
  go_region_held3 (fun w' => w'.cell? ⟨j, 2, none⟩ = some (.int .u32 gen) ∧ w'.cell? ⟨j, 3, none⟩ = some (.int .u32 term) ∧ w'.cell? ⟨j, 4, none⟩ = some (I used) ∧ w'.cell? ⟨j, 5, none⟩ = some (I many))
    (first | exact ⟨(cells7 JD.out).2.2.1, (cells7 JD.out).2.2.2.1, (cells7 JD.out).2.2.2.2.1, (cells7 JD.out).2.2.2.2.2.1⟩ | exact ⟨(cells7 J3.out).2.2.1, (cells7 J3.out).2.2.2.1, (cells7 J3.out).2.2.2.2.1, (cells7 J3.out).2.2.2.2.2.1⟩)
    (first
      | (go_at_call 68; refine (F1.out _ JD.out).mono ?_; rintro e w2 ⟨rfl, rfl⟩)
      | (go_at_call 67; refine PD.out.mono ?_; rintro e w3 ⟨rfl, hd3, hc3⟩; have D3 := hid hd3; have C3 := hid hc3; have J3 := hid (JIs.dev HJ.out hc3); clear hd3 hc3))
  obtain ⟨b0, b1, b2, b3, b4, b5, b6, bf⟩ := cells7 J3.out
  clear a2 a3 a4 a5 af b0 b1 b2 b3 b5 b6
  go_wp2_with fail
  have eu : IntKind.i64.wrap ((used : Int) + m) = ((used + m : Nat) : Int) := by rw [IntKind.wrap_i64]; have := HRoom.out; omega
  go_region_with (first | (go_at_call 32; refine (HN.out _).mono ?_; rintro e w4 ⟨rfl, rfl⟩))
  all_goals
    have J5 := hid (JIs.used J3.out ((used : Int) + m) (used + m) (by omega))
    have D5 := hid (show DevAt S (w3.setCell ⟨j, 4, none⟩ (.int .i64 ((used : Int) + m))).drew d _ from (JIs.far J3.out D3.out 4 (.int .i64 ((used : Int) + m))).drawn 1)
    have C5 := hid (show Chg (Mut S jts w) w (w3.setCell ⟨j, 4, none⟩ (.int .i64 ((used : Int) + m))).drew from ((C3.out.mut (us := jts) (fun _ _ h => h) (by simp [pts, jts])).setCell (p := ⟨j, 4, none⟩) (fun _ => Mut.of hj HJ.out (by simp)) _).drewN 1)
    clear b4 bf
    generalize (w3.setCell ⟨j, 4, none⟩ (.int .i64 ((used : Int) + m))).drew = w5 at *
    obtain ⟨b0, b1, b2, b3, b4, b5, b6, bf⟩ := cells7 J5.out
    clear b0 b1 b2 b3 b4 b6
    have em : IntKind.i64.wrap ((many : Int) + 1) = ((many + 1 : Nat) : Int) := by rw [IntKind.wrap_i64]; omega
    go_wp2_with fail
    go_ret
    exact ⟨rfl, JIs.many J5.out _ (many + 1) (by omega), JIs.far J5.out D5.out 5 _, C5.out.setCell (p := ⟨j, 5, none⟩) (fun _ => Mut.of hj HJ.out (by simp)) _⟩
end Go.Proofs.Ytjlmbmamkhneiaa
