/- The walk of the law JournalRoom. -/
import Derived.Test.YtjlmbmamkhneiaaJla
namespace Go.Proofs.Ytjlmbmamkhneiaa
open Go Go.RowKit
set_option maxRecDepth 100000
theorem i64_and1023 (n : Int) : bits .and .i64 n 1023 = n % 1024 := by
  have h127 : (BitVec.ofInt 64 1023).toNat = 2 ^ 10 - 1 := by decide
  have key : (BitVec.ofInt 64 n &&& BitVec.ofInt 64 1023).toNat = (n % ((2 ^ 64 : Nat) : Int)).toNat % 2 ^ 10 := by
    rw [BitVec.toNat_and, BitVec.toNat_ofInt, h127, Nat.and_two_pow_sub_one_eq_mod]
  show IntKind.i64.wrap ((BitVec.ofInt 64 n &&& BitVec.ofInt 64 1023).toNat : Nat) = n % 1024
  rw [key, IntKind.wrap_i64]
  omega
theorem mod60 (n : Int) : -60 < n.tmod 60 ∧ n.tmod 60 < 60 := by
  by_cases h : 0 ≤ n
  · rw [Int.tmod_eq_emod_of_nonneg h]; omega
  · have h1 := Int.neg_tmod n 60
    rw [Int.tmod_eq_emod_of_nonneg (by omega : (0 : Int) ≤ -n)] at h1
    omega
set_option maxHeartbeats 4000000 in
theorem JournalRoom_t (n : Int) (a : Option Addr) (len c : Nat) (l : List Int) (w : World) (hl : RdI w (.slice a len c) l) :
    Calls Try.prog 9 #[I n, .slice a len c] w fun e w' => e = .returned (.bool true) ∧ Below w.heap.size w w' := by
  have S0 : Hid (∀ k, w.heap.size ≤ k → (fun k => w.heap.size ≤ k) k) := hid fun k hk => hk
  obtain ⟨hm1, hm2⟩ := mod60 n
  generalize hm : n.tmod 60 = m at *
  have hmw : IntKind.i64.wrap m = m := by rw [IntKind.wrap_i64]; omega
  obtain rfl : len = l.length := by obtain ⟨_, _, e, _⟩ := hl; injection e with _ e2 _; rw [e2, List.length_map]
  have L0 := hid hl
  clear hl
  by_cases hm4 : m < 4
  · have hdl : (DevS.new m).lasts.length < 4 := by have := newdev_len m; omega
    have HDL := hid hdl
    clear hdl
    go_enter Try.func9, Try.ntmps9
    go_wp2_with fail
    refine (New_any m w (fun k => w.heap.size ≤ k) S0.out).mono ?_
    rintro e w1 ⟨d, rfl, hd, hn⟩
    have D1 := hid hd
    have C1 := hid hn
    clear hd hn
    go_wp2_with fail
    refine (openSmall_t w1 d _ D1.out rfl HDL.out).mono ?_
    rintro e w2 ⟨rfl, rfl⟩
    go_wp2_with fail
    refine (awakeJ_t _).mono ?_
    rintro e w3 ⟨rfl, hn3⟩
    go_wp2_with fail
    go_ret
    exact ⟨rfl, (C1.out.trans hn3 (fun _ _ e => e)).below (fun _ e => e.elim) (Nat.le_refl _)⟩
  · obtain ⟨k, rfl⟩ : ∃ k : Nat, m = k := ⟨m.toNat, by omega⟩
    have hsub : IntKind.i64.wrap ((k : Int) - 2) = ((k - 2 : Nat) : Int) := by rw [IntKind.wrap_i64]; omega
    have hdiv : (((k - 2 : Nat) : Int).tdiv 2) = (((k - 2) / 2 : Nat) : Int) := by rw [Int.tdiv_eq_ediv_of_nonneg (by omega)]; omega
    have hsw : IntKind.i64.wrap (((k - 2) / 2 : Nat) : Int) = (((k - 2) / 2 : Nat) : Int) := by rw [IntKind.wrap_i64]; omega
    have hbare := bare_new k (by omega) (by omega)
    have hnl := (new_ok k (by omega)).2.1
    have HBare := hid hbare
    have HNL := hid hnl
    clear hbare hnl
    generalize hsz : (k - 2) / 2 = size at *
    have HSZ := hid hsz
    have hsize : size ≤ 29 := by omega
    clear hsz
    generalize hk2 : k - 2 = k2 at *
    have HK2 := hid hk2
    clear hk2
    go_enter Try.func9, Try.ntmps9
    go_wp2_with fail
    refine (New_any k w (fun k => w.heap.size ≤ k) S0.out).mono ?_
    rintro e w1 ⟨d, rfl, hd, hn⟩
    have D1 := hid hd
    have C1 := hid hn
    clear hd hn
    go_wp2_with fail
    refine (open_t w1 d _ D1.out size none HBare.out).mono ?_
    rintro e w2 ⟨j, v, rfl, hj, rfl, hn, hjb⟩
    have D2 := hid (D1.out.new hn)
    have J2 := hid (show JIs w2 j d size 0 1 0 0 from hj)
    have C2 := hid (C1.out.trans hn (fun _ _ e => e))
    have SJ := hid (show w.heap.size ≤ j from Nat.le_trans C1.out.size hjb)
    clear hj hn hjb
    go_wp2_with fail
    go_loopw [8, 33] (fun v8 v33 wr => ∃ (i used many : Nat) (D : DevS), v8 = I (size - used : Nat) ∧ v33 = .int .i64 i ∧ i ≤ l.length ∧ i ≤ 30 ∧ used ≤ size ∧ many ≤ i ∧ JIs wr j d size 0 1 used many ∧ DevAt (fun k => w.heap.size ≤ k) wr d D ∧ D.down = false ∧ D.fuse = 0 ∧ D.pend.length ≤ 20 * i ∧ D.lasts.length = k ∧ New w wr) (fun _ v _ => l.length - (intOf v).toNat)
    case atStart => exact ⟨0, 0, 0, DevS.new k, rfl, rfl, by omega, by omega, by omega, by omega, J2.out, D2.out, rfl, rfl, by simp [DevS.new], HNL.out, C2.out⟩
    case round =>
      obtain ⟨W0, rfl⟩ : ∃ W0 : World, W0 = wr := ⟨_, rfl⟩
      obtain ⟨i, used, many, D, rfl, rfl, hi, hi30, hu, hmany, hJ, hD, hdn, hf, hp, hlk, hC⟩ := hrel
      have J1 := hid hJ
      have D1 := hid hD
      have C1 := hid hC
      have HDN := hid hdn
      have HF := hid hf
      have HP := hid hp
      have HLK := hid hlk
      have L1 := hid (show RdI W0 (.slice a l.length c) l from L0.out.move (w' := W0) fun g hg hl => hC.block g hl (fun e => e))
      clear hJ hD hC hdn hf hp hlk
      by_cases hlt : i < l.length
      · obtain ⟨xa, xc, e1, _, _, hcell⟩ := L1.out
        injection e1 with e1 e2 e3
        clear e2
        obtain ⟨g, off, rfl, hv⟩ := hcell i (I l[i]) (by simp [hlt])
        subst e1 e3
        clear hcell
        generalize l[i] = z at *
        by_cases h30 : 30 ≤ i
        · have h30i : (30 : Int) ≤ (i : Int) := by omega
          go_wp2_with fail
          refine (jroom_t W0 j d size 0 1 used many J1.out (by omega) hu).mono ?_
          rintro e w2 ⟨rfl, nd, rfl⟩
          go_wp2_with fail
          refine (awakeJ_t _).mono ?_
          rintro e w3 ⟨rfl, hn3⟩
          go_wp2_with fail
          go_ret
          exact ⟨rfl, ((C1.out.drewN nd).trans hn3 (fun _ _ e => e)).below (fun _ e => e.elim) (Nat.le_refl _)⟩
        · have h30i : (i : Int) < 30 := by omega
          have hand := i64_and1023 z
          obtain ⟨q, hq⟩ : ∃ q : Nat, z % 1024 = q := ⟨(z % 1024).toNat, by omega⟩
          have hq1 : q ≤ 1023 := by omega
          rw [hq] at hand
          have hmk := mkzero q (by omega)
          have hi1 : IntKind.i64.wrap ((i : Int) + 1) = ((i + 1 : Nat) : Int) := by rw [IntKind.wrap_i64]; omega
          have HN : Hid (∀ w, Calls Try.prog 33 #[I q] w fun e w' => e = .returned (I ((q + 82) / 64 : Nat)) ∧ w = w') := hid fun w => by have := needR_t q w; rw [needZ_nat q (by omega)] at this; exact this
          clear hq
          have ZR := hid (zero_rd q (by omega) W0)
          have ZL := hid (show ∀ g, (Value.slice (some ⟨W0.heap.size, 0, none⟩) q q).ownBlock = some g → g < (W0.alloc (.cells (zeroA q) 5)).heap.size from fun g hg => by
            have : W0.heap.size = g := by simpa [Value.ownBlock] using hg
            rw [World.size_alloc]; omega)
          have JZ := hid (J1.out.chg ((Chg.refl (fun _ => False) W0).alloc (.cells (zeroA q) 5)) (fun e => e))
          have DZ := hid (D1.out.alloc (.cells (zeroA q) 5))
          have CZ := hid (C1.out.alloc (.cells (zeroA q) 5))
          by_cases hfit : (q + 82) / 64 ≤ size - used
          · have AP := hid (append_t (W0.alloc (.cells (zeroA q) 5)) j d size 0 1 used many D JZ.out SJ.out DZ.out (fun k hk => Nat.le_trans CZ.out.size hk) HDN.out HF.out (by have := HP.out; omega) (by have := HLK.out; have := HSZ.out; have := HK2.out; omega) hu (by omega) (by omega) (by omega) _ (List.replicate q 0) ZR.out ZL.out (by simp; omega) (by simpa using hfit))
            rw [List.length_replicate] at AP
            have hroom : size - used - (q + 82) / 64 = size - (used + (q + 82) / 64) := by omega
            have hle : ¬ (((size - used : Nat) : Int) < (((q + 82) / 64 : Nat) : Int)) := by omega
            have hnew : IntKind.i64.wrap (((size - used : Nat) : Int) - (((q + 82) / 64 : Nat) : Int)) = ((size - (used + (q + 82) / 64) : Nat) : Int) := by rw [IntKind.wrap_i64]; omega
            have hneed : (q + 82) / 64 ≤ 17 := by omega
            generalize (q + 82) / 64 = need at *
            have hu' : used + need ≤ size := by omega
            have hle' : (need : Int) ≤ ((size - used : Nat) : Int) := by omega
            generalize hrm : size - (used + need) = room' at *
            generalize hrn : size - used = room at *
            have HRM := hid hrm
            have HU := hid hu'
            clear hrm hrn hroom hu' hfit
            go_wp2_with fail
            refine AP.out.mono ?_
            rintro e w2 ⟨rfl, hj, hd, hc⟩
            have J2 := hid hj
            have D2 := hid hd
            have C2 := hid (show New w w2 from CZ.out.trans hc (fun i hi e => by have := e.1; omega))
            clear hj hd hc AP
            go_wp2_with fail
            refine (HN.out _).mono ?_
            rintro e w3 ⟨rfl, rfl⟩
            go_wp2_with fail
            refine (HN.out _).mono ?_
            rintro e w3 ⟨rfl, rfl⟩
            go_wp2_with fail
            refine (jroom_t _ j d size 0 1 (used + need) (many + 1) J2.out (by omega) HU.out).mono ?_
            rintro e w4 ⟨rfl, nd, rfl⟩
            rw [HRM.out]
            go_wp2_with fail
            obtain ⟨q1, q2, q3, q4⟩ := putD_same D (2 + 0 % 2 * size + used) (OutP.frBytes 0 many 1 (List.replicate q 0)) need
            exact ⟨⟨i + 1, used + need, many + 1, _, by rw [HRM.out], rfl, by omega, by omega, HU.out, by omega, J2.out, D2.out.drawn nd, q1.trans HDN.out, q2.trans HF.out, by rw [q4]; have := HP.out; omega, by rw [q3]; exact HLK.out, C2.out.drewN nd⟩, by simp [intOf]; omega⟩
          · have FU := hid (appendFull_t (W0.alloc (.cells (zeroA q) 5)) j d size 0 1 used many JZ.out (by omega) hu (some ⟨W0.heap.size, 0, none⟩) q q (by omega) (by omega))
            have hgt : ((size - used : Nat) : Int) < (((q + 82) / 64 : Nat) : Int) := by omega
            generalize (q + 82) / 64 = need at *
            generalize hrn : size - used = room at *
            have HRN := hid hrn
            clear hrn hfit
            go_wp2_with fail
            refine FU.out.mono ?_
            rintro e w2 ⟨rfl, nd, rfl⟩
            go_wp2_with fail
            refine (HN.out _).mono ?_
            rintro e w3 ⟨rfl, rfl⟩
            go_wp2_with fail
            exact ⟨⟨i + 1, used, many, D, by rw [HRN.out], rfl, by omega, by omega, hu, by omega, JZ.out, DZ.out.drawn nd, HDN.out, HF.out, by have := HP.out; omega, HLK.out, CZ.out.drewN nd⟩, by simp [intOf]; omega⟩
      · 
        go_wp2_with fail
        refine (jroom_t W0 j d size 0 1 used many J1.out (by omega) hu).mono ?_
        rintro e w2 ⟨rfl, nd, rfl⟩
        go_wp2_with fail
        refine (awakeJ_t _).mono ?_
        rintro e w3 ⟨rfl, hn3⟩
        go_wp2_with fail
        go_ret
        exact ⟨rfl, ((C1.out.drewN nd).trans hn3 (fun _ _ e => e)).below (fun _ e => e.elim) (Nat.le_refl _)⟩
end Go.Proofs.Ytjlmbmamkhneiaa
