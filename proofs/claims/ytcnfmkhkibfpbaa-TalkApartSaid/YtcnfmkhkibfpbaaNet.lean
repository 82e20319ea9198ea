/- The walks of the Internet's sum and of the frames' sum: the program's and the reference's; of 'short'. -/
import Derived.Test.YtcnfmkhkibfpbaaCat
namespace Go.Proofs.Ytcnfmkhkibfpbaa
open Go Go.RowKit

/-- one byte of the program's sum, at place i -/
def netStepI (i : Nat) (s : Int) (u : UInt8) : Int :=
  let n : Int := if i % 2 = 0 then (u.toNat : Int) * 256 else (u.toNat : Int)
  bits .and .u32 (s + n) 65535 + (s + n) / 65536
def netI : Nat → Int → List UInt8 → Int
  | _, s, [] => s
  | i, s, u :: l => netI (i + 1) (netStepI i s u) l
theorem netI_snoc (l : List UInt8) (u : UInt8) : ∀ (i : Nat) (s : Int), netI i s (l ++ [u]) = netStepI (i + l.length) (netI i s l) u := by
  induction l with
  | nil => intro i s; simp [netI]
  | cons x l ih => intro i s; simp only [List.cons_append, netI, ih, List.length_cons]; rw [show i + 1 + l.length = i + (l.length + 1) by omega]
theorem and_ffff (n : Int) (h0 : 0 ≤ n) (h1 : n < 4294967296) : bits .and .u32 n 65535 = n % 65536 := by
  rw [u32_and n 65535 h0 h1 (by decide) (by decide)]
  have : (65535 : Int).toNat = 2 ^ 16 - 1 := rfl
  rw [this, Nat.and_two_pow_sub_one_eq_mod]
  omega
theorem step_eq (n : Int) (h0 : 0 ≤ n) (h1 : n < 4294967296) : (bits .and .u32 n 65535 + n / 65536) % 4294967296 = bits .and .u32 n 65535 + n / 65536 := by
  rw [and_ffff n h0 h1]; omega
theorem netStep_range (i : Nat) (s : Int) (u : UInt8) (h0 : 0 ≤ s) (h1 : s ≤ 65535) : 0 ≤ netStepI i s u ∧ netStepI i s u ≤ 65535 := by
  have hu := u.toNat_lt
  unfold netStepI
  simp only []
  split <;> (rw [and_ffff _ (by omega) (by omega)]; omega)
theorem net_range (l : List UInt8) : ∀ (i : Nat) (s : Int), 0 ≤ s → s ≤ 65535 → 0 ≤ netI i s l ∧ netI i s l ≤ 65535 := by
  induction l with
  | nil => intro i s h0 h1; exact ⟨h0, h1⟩
  | cons x l ih => intro i s h0 h1; exact ih _ _ (netStep_range i s x h0 h1).1 (netStep_range i s x h0 h1).2

set_option maxHeartbeats 1000000 in
theorem net_t (pv : Value) (bss : List (List UInt8)) (w0 : World) (hp : RdS w0 pv bss) (htot : bss.flatten.length ≤ 1048576) :
    Calls Try.prog 13 #[pv] w0 fun e w' => e = .returned (.int .u16 (bits .xor .u16 65535 (netI 0 0 bss.flatten))) ∧ Below w0.heap.size w0 w' := by
  go_enter Try.func13, Try.ntmps13
  go_wp2_with fail
  refine (concat_t pv bss w0 hp htot).mono ?_
  rintro e w1 ⟨v, rfl, hown, hbl⟩
  have hrd := Rd.of_owns hown
  have HB := hid hbl
  clear hbl hp hown
  generalize hbs : bss.flatten = bs at *
  have HF := hid hbs
  clear hbs
  obtain ⟨a, c, rfl, hc, hm, hcell⟩ := hrd
  unfold maxLen at hm
  have H := hid hcell
  clear hcell
  go_wp2
  go_loop [4, 12] (fun x k => ∃ m : Nat, k = .int .i64 m ∧ m ≤ bs.length ∧ x = .int .u32 (netI 0 0 (bs.take m))) (fun x k => bs.length - (intOf k).toNat)
  case atStart => exact ⟨0, rfl, by omega, rfl⟩
  case round =>
    obtain ⟨m, rfl, hm, rfl⟩ := hrel
    have hr := net_range (bs.take m) 0 0 (by decide) (by decide)
    by_cases hlt : m < bs.length
    · obtain ⟨g, off, rfl, hv⟩ := H.out m _ (List.getElem?_eq_getElem hlt)
      have HS := hid (take_snoc hlt)
      have hu := bs[m].toNat_lt
      have HL := hid (netI_snoc (bs.take m) bs[m] 0 0)
      generalize bs[m] = u at *
      generalize netI 0 0 (bs.take m) = y at *
      by_cases h2 : m % 2 = 0
      · have h2' : (((m : Int) % 2) == 0) = true := by simp; omega
        have HE := hid (step_eq (y + (u.toNat : Int) * 256) (by omega) (by omega))
        go_wp2
        exact ⟨⟨m + 1, by go_num, by omega, vi (by rw [HS.out, HL.out, List.length_take, Nat.min_eq_left hm, Nat.zero_add, HE.out, netStepI, if_pos h2])⟩, by simp [intOf]; omega⟩
      · have h2' : (((m : Int) % 2) == 0) = false := by simp; omega
        have HE := hid (step_eq (y + (u.toNat : Int)) (by omega) (by omega))
        go_wp2
        exact ⟨⟨m + 1, by go_num, by omega, vi (by rw [HS.out, HL.out, List.length_take, Nat.min_eq_left hm, Nat.zero_add, HE.out, netStepI, if_neg h2])⟩, by simp [intOf]; omega⟩
    · go_wp2
      go_ret
      obtain rfl : m = bs.length := by omega
      exact ⟨by rw [List.take_length, HF.out]; rfl, HB.out⟩
def crcBitI (w : Int) : Int := bits .xor .u32 (w / 2) (3988292384 * bits .and .u32 w 1 % 4294967296)
def crcBitsI : Nat → Int → Int
  | 0, w => w
  | n + 1, w => crcBitI (crcBitsI n w)
def crcByteI (w : Int) (u : UInt8) : Int := crcBitsI 8 (bits .xor .u32 w (u.toNat : Int))
def crcI (w : Int) (l : List UInt8) : Int := l.foldl crcByteI w


theorem crcI_snoc (y : Int) (l : List UInt8) (u : UInt8) : crcI y (l ++ [u]) = crcByteI (crcI y l) u := by simp [crcI]
theorem crcI_flat (y : Int) (l : List (List UInt8)) (b : List UInt8) : crcI y (l ++ [b]).flatten = crcI (crcI y l.flatten) b := by simp [crcI]

theorem crc_t (w0 : World) (pv : Value) (bss : List (List UInt8)) (hp : RdS w0 pv bss) :
    Calls Try.prog 16 #[pv] w0 fun e w' => e = .returned (.int .u32 (bits .xor .u32 4294967295 (crcI 4294967295 bss.flatten))) ∧ w0 = w' := by
  obtain ⟨a, c, rfl, hc, hm, hcell⟩ := hp
  unfold maxLen at hm
  have H := hid hcell
  clear hcell
  go_enter Try.func16, Try.ntmps16
  go_wp2
  go_loop [3, 10] (fun x k => ∃ m : Nat, k = .int .i64 m ∧ m ≤ bss.length ∧ x = .int .u32 (crcI 4294967295 (bss.take m).flatten)) (fun x k => bss.length - (intOf k).toNat)
  case atStart => exact ⟨0, rfl, by omega, rfl⟩
  case round =>
    obtain ⟨m, rfl, hm, rfl⟩ := hrel
    by_cases hlt : m < bss.length
    · obtain ⟨g, off, s, rfl, hv, b, cb, rfl, hb1, hb2, hb3⟩ := H.out m _ (List.getElem?_eq_getElem hlt)
      unfold maxLen at hb2
      have HS := hid (take_snoc hlt)
      generalize bss[m] = bs at *
      have Hb := hid hb3
      clear hb3
      generalize HY : crcI 4294967295 (bss.take m).flatten = y at *
      have HY' := hid HY
      clear HY
      go_wp2
      go_loop [3, 16] (fun x i => ∃ m : Nat, i = .int .i64 m ∧ m ≤ bs.length ∧ x = .int .u32 (crcI y (bs.take m))) (fun x i => bs.length - (intOf i).toNat)
      case atStart => exact ⟨0, rfl, by omega, rfl⟩
      case round =>
        obtain ⟨i, rfl, hi, rfl⟩ := hrel
        by_cases hli : i < bs.length
        · obtain ⟨g', off', rfl, hv'⟩ := Hb.out i _ (List.getElem?_eq_getElem hli)
          have HT := hid (take_snoc hli)
          have hu := bs[i].toNat_lt
          generalize bs[i] = u at *
          generalize HZ : crcI y (bs.take i) = z at *
          have HZ' := hid HZ
          clear HZ
          go_wp2
          go_loop [3, 24] (fun x r => ∃ k : Nat, r = .int .i64 k ∧ k ≤ 8 ∧ x = .int .u32 (crcBitsI k (bits .xor .u32 z (u.toNat : Int)))) (fun x r => 8 - (intOf r).toNat)
          case atStart => exact ⟨0, rfl, by omega, rfl⟩
          case round =>
            obtain ⟨k, rfl, hk, rfl⟩ := hrel
            have HQ := hid (show crcBitsI (k + 1) (bits .xor .u32 z (u.toNat : Int)) = crcBitI (crcBitsI k (bits .xor .u32 z (u.toNat : Int))) from rfl)
            generalize HE : crcBitsI k (bits .xor .u32 z (u.toNat : Int)) = q at *
            have HE' := hid HE
            clear HE
            by_cases hkk : k < 8
            · go_wp2
              exact ⟨⟨k + 1, by go_num, by omega, vi (by rw [HQ.out]; rfl)⟩, by simp [intOf]; omega⟩
            · go_wp2
              obtain rfl : k = 8 := by omega
              exact ⟨⟨i + 1, by go_num, by omega, vi (by rw [HT.out, crcI_snoc, HZ'.out]; exact HE'.out.symm)⟩, by simp [intOf]; omega⟩
        · go_wp2
          obtain rfl : i = bs.length := by omega
          exact ⟨⟨m + 1, by go_num, by omega, vi (by rw [HS.out, crcI_flat, HY'.out, List.take_of_length_le (Nat.le_refl _)])⟩, by simp [intOf]; omega⟩
    · go_wp2
      go_ret
      obtain rfl : m = bss.length := by omega
      refine ⟨?_, rfl⟩
      simp [List.take_of_length_le, IntKind.max, IntKind.bits, IntKind.signed]


theorem short_t (v : Value) (bs : List UInt8) (w : World) (hr : Rd w v bs) :
    Calls Try.prog 12 #[v] w fun e w' => (∃ v', e = .returned v' ∧ Rd w v' (bs.take 300)) ∧ w = w' := by
  have HR := hid hr
  obtain ⟨a, c, rfl, hc, hm, hcell⟩ := hr
  have HM := hid hm
  unfold maxLen at hm
  have H := hid hcell
  clear hcell
  by_cases hl : 300 < bs.length
  · go_enter Try.func12, Try.ntmps12
    go_wp2
    go_ret
    have hlen : (bs.take 300).length = 300 := by rw [List.length_take]; omega
    refine ⟨⟨_, rfl, a, c, by rw [hlen]; rfl, by omega, HM.out, fun j u hu => ?_⟩, rfl⟩
    rw [List.getElem?_take] at hu
    split at hu
    · exact H.out j u hu
    · cases hu
  · go_enter Try.func12, Try.ntmps12
    go_wp2
    go_ret
    exact ⟨⟨_, rfl, by rw [List.take_of_length_le (by omega)]; exact HR.out⟩, rfl⟩

/-- byte number i; 0 where there is none -/
def bat (bs : List UInt8) (i : Nat) : Int := (((bs[i]?).map (·.toNat)).getD 0 : Nat)
theorem bat_lt {bs : List UInt8} {i : Nat} (h : i < bs.length) : bat bs i = (bs[i].toNat : Int) := by
  unfold bat; rw [List.getElem?_eq_getElem h]; rfl
theorem bat_ge {bs : List UInt8} {i : Nat} (h : bs.length ≤ i) : bat bs i = 0 := by
  unfold bat; rw [List.getElem?_eq_none h]; rfl
theorem bat_range (bs : List UInt8) (i : Nat) : 0 ≤ bat bs i ∧ bat bs i ≤ 255 := by
  by_cases h : i < bs.length
  · rw [bat_lt h]; have := bs[i].toNat_lt; omega
  · rw [bat_ge (by omega)]; omega
/-- word number m of sixteen bits -/
def w16 (bs : List UInt8) (m : Nat) : Int := bat bs (2 * m) * 256 + bat bs (2 * m + 1)
/-- the reference's sum behind m words; was any of them not 0? -/
def rS (bs : List UInt8) : Nat → Int
  | 0 => 0
  | m + 1 => (rS bs m + w16 bs m) % 65535
def rB (bs : List UInt8) : Nat → Bool
  | 0 => false
  | m + 1 => rB bs m || decide (0 < w16 bs m)
theorem rS_range (bs : List UInt8) (m : Nat) : 0 ≤ rS bs m ∧ rS bs m ≤ 65534 := by
  cases m with
  | zero => simp [rS]
  | succ m => simp only [rS]; omega
def rnetI (bs : List UInt8) : Int :=
  let m := (bs.length + 1) / 2
  65535 - (if rS bs m = 0 ∧ rB bs m = true then 65535 else rS bs m)

set_option maxHeartbeats 1000000 in
theorem rnet_t (v : Value) (bs : List UInt8) (w0 : World) (hr : Rd w0 v bs) (hlen : bs.length ≤ 1048576) :
    Calls Try.prog 14 #[v] w0 fun e w' => e = .returned (.int .u16 (rnetI bs)) ∧ w0 = w' := by
  obtain ⟨a, c, rfl, hc, hm, hcell⟩ := hr
  unfold maxLen at hm
  have H := hid hcell
  clear hcell
  go_enter Try.func14, Try.ntmps14
  go_wp2
  go_loop [3, 4, 5] (fun x y k => ∃ m : Nat, k = .int .i64 (2 * m : Nat) ∧ 2 * m ≤ bs.length + 1 ∧ x = .int .i64 (rS bs m) ∧ y = .bool (rB bs m)) (fun _ _ k => bs.length + 1 - (intOf k).toNat)
  case atStart => exact ⟨0, rfl, by omega, rfl, rfl⟩
  case round =>
    obtain ⟨m, rfl, hm, rfl, rfl⟩ := hrel
    have hs := rS_range bs m
    have HS := hid (show rS bs (m + 1) = (rS bs m + w16 bs m) % 65535 from rfl)
    have HB := hid (show rB bs (m + 1) = (rB bs m || decide (0 < w16 bs m)) from rfl)
    by_cases hlt : 2 * m < bs.length
    · obtain ⟨g, off, rfl, hv⟩ := H.out (2 * m) _ (List.getElem?_eq_getElem hlt)
      have hu := bs[2 * m].toNat_lt
      by_cases hlt2 : 2 * m + 1 < bs.length
      · obtain ⟨g2, off2, hh, hv2⟩ := H.out (2 * m + 1) _ (List.getElem?_eq_getElem hlt2)
        simp only [Option.some.injEq, Addr.mk.injEq, and_true] at hh
        obtain ⟨rfl, rfl⟩ := hh
        have hu2 := bs[2 * m + 1].toNat_lt
        have HW := hid (show w16 bs m = (bs[2 * m].toNat : Int) * 256 + (bs[2 * m + 1].toNat : Int) by rw [w16, bat_lt hlt, bat_lt hlt2])
        generalize bs[2 * m] = u1 at *
        generalize bs[2 * m + 1] = u2 at *
        generalize rS bs m = s at *
        cases hb : rB bs m
        · have HB2 := hid hb
          clear hb
          go_wp2
          exact ⟨⟨m + 1, by go_num, by omega, vi (by rw [HS.out, HW.out]), congrArg Value.bool (by rw [HB.out, HB2.out, HW.out]; rfl)⟩, by simp [intOf]; omega⟩
        · have HB2 := hid hb
          clear hb
          go_wp2
          exact ⟨⟨m + 1, by go_num, by omega, vi (by rw [HS.out, HW.out]), congrArg Value.bool (by rw [HB.out, HB2.out, HW.out]; rfl)⟩, by simp [intOf]; omega⟩
      · have HW := hid (show w16 bs m = (bs[2 * m].toNat : Int) * 256 by rw [w16, bat_lt hlt, bat_ge (by omega)]; omega)
        generalize bs[2 * m] = u1 at *
        generalize rS bs m = s at *
        cases hb : rB bs m
        · have HB2 := hid hb
          clear hb
          go_wp2
          exact ⟨⟨m + 1, by go_num, by omega, vi (by rw [HS.out, HW.out]), congrArg Value.bool (by rw [HB.out, HB2.out, HW.out]; rfl)⟩, by simp [intOf]; omega⟩
        · have HB2 := hid hb
          clear hb
          go_wp2
          exact ⟨⟨m + 1, by go_num, by omega, vi (by rw [HS.out, HW.out]), congrArg Value.bool (by rw [HB.out, HB2.out, HW.out]; rfl)⟩, by simp [intOf]; omega⟩
    · obtain rfl : m = (bs.length + 1) / 2 := by omega
      have HF := hid (show rnetI bs = 65535 - (if rS bs ((bs.length + 1) / 2) = 0 ∧ rB bs ((bs.length + 1) / 2) = true then 65535 else rS bs ((bs.length + 1) / 2)) from rfl)
      generalize rS bs ((bs.length + 1) / 2) = s at *
      generalize hb : rB bs ((bs.length + 1) / 2) = b at *
      clear hb
      by_cases h0 : s = 0
      · subst h0
        cases b
        · go_wp2
          go_ret
          exact ⟨by rw [HF.out]; rfl, rfl⟩
        · go_wp2
          go_ret
          exact ⟨by rw [HF.out]; rfl, rfl⟩
      · have h0' : (s == 0) = false := by simpa using h0
        have HF2 := hid (HF.out.trans (by rw [if_neg (fun h => h0 h.1)]))
        cases b
        · go_wp2
          go_ret
          exact ⟨by rw [HF2.out]; rfl, rfl⟩
        · go_wp2
          go_ret
          exact ⟨by rw [HF2.out]; rfl, rfl⟩

/-- one bit of the reference's frames' sum -/
def rcrcBitI (u : UInt8) (k : Nat) (w : Int) : Int :=
  let q := w / 2
  if (w + (u.toNat : Int) / 2 ^ k) % 2 = 1 then bits .xor .u32 q 3988292384 else q
def rcrcBitsI (u : UInt8) : Nat → Int → Int
  | 0, w => w
  | n + 1, w => rcrcBitI u n (rcrcBitsI u n w)
def rcrcI (w : Int) (l : List UInt8) : Int := l.foldl (fun w u => rcrcBitsI u 8 w) w
theorem rcrcI_snoc (y : Int) (l : List UInt8) (u : UInt8) : rcrcI y (l ++ [u]) = rcrcBitsI u 8 (rcrcI y l) := by simp [rcrcI]

theorem xor_range (a b : Int) (h0 : 0 ≤ a) (h1 : a < 4294967296) (h2 : 0 ≤ b) (h3 : b < 4294967296) : 0 ≤ bits .xor .u32 a b ∧ bits .xor .u32 a b ≤ 4294967295 := by
  rw [u32_xor a b h0 h1 h2 h3]
  have := Nat.xor_lt_two_pow (x := a.toNat) (y := b.toNat) (n := 32) (by omega) (by omega)
  omega

set_option maxHeartbeats 1000000 in
theorem rcrc_t (v : Value) (bs : List UInt8) (w0 : World) (hr : Rd w0 v bs) :
    Calls Try.prog 17 #[v] w0 fun e w' => e = .returned (.int .u32 (4294967295 - rcrcI 4294967295 bs)) ∧ w0 = w' := by
  obtain ⟨a, c, rfl, hc, hm, hcell⟩ := hr
  unfold maxLen at hm
  have H := hid hcell
  clear hcell
  go_enter Try.func17, Try.ntmps17
  go_wp2
  go_loop [3, 10] (fun x i => ∃ m : Nat, ∃ z : Int, i = .int .i64 m ∧ m ≤ bs.length ∧ x = .int .u32 z ∧ z = rcrcI 4294967295 (bs.take m) ∧ 0 ≤ z ∧ z ≤ 4294967295) (fun x i => bs.length - (intOf i).toNat)
  case atStart => exact ⟨0, _, rfl, by omega, rfl, rfl, by decide, by decide⟩
  case round =>
    obtain ⟨m, z, rfl, hm, rfl, hz, hz0, hz1⟩ := hrel
    have HZ := hid hz
    clear hz
    by_cases hlt : m < bs.length
    · obtain ⟨g, off, rfl, hv⟩ := H.out m _ (List.getElem?_eq_getElem hlt)
      have HS := hid (take_snoc hlt)
      have hu := bs[m].toNat_lt
      generalize bs[m] = u at *
      go_wp2
      go_loop [3, 6] (fun x i => ∃ k : Nat, ∃ q : Int, i = .int .i64 k ∧ k ≤ 8 ∧ x = .int .u32 q ∧ q = rcrcBitsI u k z ∧ 0 ≤ q ∧ q ≤ 4294967295) (fun x i => 8 - (intOf i).toNat)
      case atStart => exact ⟨0, _, rfl, by omega, rfl, rfl, hz0, hz1⟩
      case round =>
        obtain ⟨k, q, rfl, hk, rfl, hq, hq0, hq1⟩ := hrel
        have HQ := hid hq
        clear hq
        by_cases hkk : k < 8
        · go_wp2
          · have ht : ((q + (u.toNat : Int) / 2 ^ k) % 2 == 1) = true := by assumption
            have hr := xor_range (q / 2) 3988292384 (by omega) (by omega) (by decide) (by decide)
            exact ⟨⟨k + 1, _, by go_num, by omega, rfl, by rw [rcrcBitsI, ← HQ.out, rcrcBitI, if_pos (by simpa using ht)], hr.1, hr.2⟩, by simp [intOf]; omega⟩
          · have ht : ((q + (u.toNat : Int) / 2 ^ k) % 2 == 1) = false := by assumption
            exact ⟨⟨k + 1, _, by go_num, by omega, rfl, by rw [rcrcBitsI, ← HQ.out, rcrcBitI, if_neg (by simpa using ht)], by omega, by omega⟩, by simp [intOf]; omega⟩
        · go_wp2
          obtain rfl : k = 8 := by omega
          exact ⟨⟨m + 1, _, by go_num, by omega, rfl, by rw [HS.out, rcrcI_snoc, ← HZ.out]; exact HQ.out, hq0, hq1⟩, by simp [intOf]; omega⟩
    · go_wp2
      go_ret
      obtain rfl : m = bs.length := by omega
      have := HZ.out
      rw [List.take_length] at this
      exact ⟨by rw [← this]; rfl, rfl⟩
end Go.Proofs.Ytcnfmkhkibfpbaa
