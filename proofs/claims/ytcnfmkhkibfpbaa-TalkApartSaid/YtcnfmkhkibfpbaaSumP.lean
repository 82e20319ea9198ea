/- The plain laws of layer 3: the Internet's sum and the frames' sum of the program are the reference's. -/
import Derived.Test.YtcnfmkhkibfpbaaNet
namespace Go.Proofs.Ytcnfmkhkibfpbaa
open Go Go.RowKit

/-! The Internet's sum -/
def wgt (i : Nat) (x : Int) : Int := if i % 2 = 0 then x * 256 else x
def wsum : Nat → List UInt8 → Int
  | _, [] => 0
  | i, u :: l => wgt i (u.toNat : Int) + wsum (i + 1) l
theorem wgt_range (i : Nat) (u : UInt8) : 0 ≤ wgt i (u.toNat : Int) ∧ wgt i (u.toNat : Int) ≤ 65280 := by
  have := u.toNat_lt
  unfold wgt; split <;> omega
theorem wsum_nonneg (l : List UInt8) : ∀ i, 0 ≤ wsum i l := by
  induction l with
  | nil => intro i; simp [wsum]
  | cons u l ih => intro i; simp only [wsum]; have := ih (i + 1); have := wgt_range i u; omega
theorem wsum_append (a b : List UInt8) : ∀ i, wsum i (a ++ b) = wsum i a + wsum (i + a.length) b := by
  induction a with
  | nil => intro i; simp [wsum]
  | cons u l ih => intro i; simp only [List.cons_append, wsum, ih, List.length_cons]; rw [show i + 1 + l.length = i + (l.length + 1) by omega]; omega
theorem wgt_par (i j : Nat) (h : i % 2 = j % 2) (x : Int) : wgt i x = wgt j x := by unfold wgt; rw [h]
theorem wsum_par (l : List UInt8) : ∀ i j : Nat, i % 2 = j % 2 → wsum i l = wsum j l := by
  induction l with
  | nil => intro i j _; rfl
  | cons u l ih => intro i j h; simp only [wsum]; rw [wgt_par i j h, ih (i + 1) (j + 1) (by omega)]
theorem netStep_eq (i : Nat) (s : Int) (u : UInt8) (h0 : 0 ≤ s) (h1 : s ≤ 65535) : netStepI i s u = (s + wgt i (u.toNat : Int)) % 65536 + (s + wgt i (u.toNat : Int)) / 65536 := by
  have hu := u.toNat_lt
  unfold netStepI wgt
  simp only []
  split <;> rw [and_ffff _ (by omega) (by omega)]
theorem netI_spec (l : List UInt8) : ∀ (i : Nat) (s : Int), 0 ≤ s → s ≤ 65535 →
    netI i s l % 65535 = (s + wsum i l) % 65535 ∧ (netI i s l = 0 ↔ s + wsum i l = 0) := by
  induction l with
  | nil => intro i s _ _; simp [netI, wsum]
  | cons u l ih =>
    intro i s h0 h1
    have hr := netStep_range i s u h0 h1
    have he := netStep_eq i s u h0 h1
    have hw := wgt_range i u
    have hn := wsum_nonneg l (i + 1)
    obtain ⟨e1, e2⟩ := ih (i + 1) (netStepI i s u) hr.1 hr.2
    simp only [netI, wsum]
    rw [e1, e2, he]
    generalize wgt i (u.toNat : Int) = x at *
    generalize wsum (i + 1) l = y at *
    constructor <;> omega
theorem xor16 (v : Int) (h0 : 0 ≤ v) (h1 : v ≤ 65535) : bits .xor .u16 65535 v = 65535 - v := by
  rw [u16_xor 65535 v (by decide) (by decide) h0 (by omega)]
  have h : (65535 : Int).toNat ^^^ v.toNat = 65535 - v.toNat := by
    have hb := BitVec.toNat_not (x := BitVec.ofNat 16 v.toNat)
    rw [← BitVec.allOnes_xor, BitVec.toNat_xor] at hb
    simp only [BitVec.toNat_ofNat, BitVec.toNat_allOnes] at hb
    rw [Nat.mod_eq_of_lt (show v.toNat < 2 ^ 16 by omega)] at hb
    exact hb
  rw [h]; omega
/-- The bytes of a list, each with its weight, up to number k. -/
def bsum (bs : List UInt8) : Nat → Int
  | 0 => 0
  | k + 1 => bsum bs k + wgt k (bat bs k)
theorem wsum_take (bs : List UInt8) : ∀ k, k ≤ bs.length → wsum 0 (bs.take k) = bsum bs k := by
  intro k
  induction k with
  | zero => intro _; simp [wsum, bsum]
  | succ k ih =>
    intro h
    rw [take_snoc (by omega), wsum_append, ih (by omega), List.length_take, Nat.min_eq_left (by omega), bsum, bat_lt (by omega)]
    simp [wsum]
theorem bsum_end (bs : List UInt8) (k : Nat) : bsum bs (bs.length + k) = wsum 0 bs := by
  induction k with
  | zero => rw [Nat.add_zero, ← wsum_take bs bs.length (Nat.le_refl _), List.take_length]
  | succ k ih => rw [← Nat.add_assoc, bsum, ih, bat_ge (by omega)]; simp [wgt]
theorem bsum_words (bs : List UInt8) (m : Nat) : bsum bs (2 * (m + 1)) = bsum bs (2 * m) + w16 bs m := by
  rw [show 2 * (m + 1) = 2 * m + 1 + 1 by omega, bsum, bsum, w16]
  unfold wgt
  rw [if_pos (by omega), if_neg (by omega)]
  omega
theorem w16_nonneg (bs : List UInt8) (m : Nat) : 0 ≤ w16 bs m := by
  have := bat_range bs (2 * m); have := bat_range bs (2 * m + 1); unfold w16; omega
theorem rS_spec (bs : List UInt8) (m : Nat) : rS bs m = bsum bs (2 * m) % 65535 ∧ 0 ≤ bsum bs (2 * m) ∧ (rB bs m = true ↔ 0 < bsum bs (2 * m)) := by
  induction m with
  | zero => simp [rS, bsum, rB]
  | succ m ih =>
    obtain ⟨e1, e2, e3⟩ := ih
    have hw := w16_nonneg bs m
    rw [bsum_words]
    refine ⟨by rw [rS, e1]; omega, by omega, ?_⟩
    rw [rB, Bool.or_eq_true, e3, decide_eq_true_eq]
    omega
theorem net_eq (bs : List UInt8) : bits .xor .u16 65535 (netI 0 0 bs) = rnetI bs := by
  have hr := net_range bs 0 0 (by decide) (by decide)
  obtain ⟨h1, h2⟩ := netI_spec bs 0 0 (by decide) (by decide)
  obtain ⟨e1, e2, e3⟩ := rS_spec bs ((bs.length + 1) / 2)
  have hs := rS_range bs ((bs.length + 1) / 2)
  have hN : bsum bs (2 * ((bs.length + 1) / 2)) = wsum 0 bs := by
    rcases Nat.mod_two_eq_zero_or_one bs.length with h | h
    · rw [show 2 * ((bs.length + 1) / 2) = bs.length + 0 by omega]; exact bsum_end bs 0
    · rw [show 2 * ((bs.length + 1) / 2) = bs.length + 1 by omega]; exact bsum_end bs 1
  rw [xor16 _ hr.1 hr.2]
  unfold rnetI
  simp only []
  rw [hN] at e1 e2 e3
  by_cases hc : rS bs ((bs.length + 1) / 2) = 0 ∧ rB bs ((bs.length + 1) / 2) = true
  · rw [if_pos hc]
    rw [e3] at hc
    omega
  · rw [if_neg hc]
    rw [e3] at hc
    omega
/-- With the sum of the whole in place of two noughts at an even place the sum is 0. -/
theorem net_zero (a b : List UInt8) (ha : a.length % 2 = 0) (x y : UInt8) (s : Int) (hs : s = bits .xor .u16 65535 (netI 0 0 (a ++ [0, 0] ++ b))) (hxy : (x.toNat : Int) * 256 + (y.toNat : Int) = s) :
    bits .xor .u16 65535 (netI 0 0 (a ++ [x, y] ++ b)) = 0 := by
  have hr := net_range (a ++ [0, 0] ++ b) 0 0 (by decide) (by decide)
  obtain ⟨h1, h2⟩ := netI_spec (a ++ [0, 0] ++ b) 0 0 (by decide) (by decide)
  have hr' := net_range (a ++ [x, y] ++ b) 0 0 (by decide) (by decide)
  obtain ⟨h1', h2'⟩ := netI_spec (a ++ [x, y] ++ b) 0 0 (by decide) (by decide)
  have hz : wsum 0 (a ++ [0, 0] ++ b) = wsum 0 a + wsum 0 b := by
    rw [wsum_append, wsum_append, wsum_par b _ 0 (by simp; omega), wsum_par [0, 0] _ 0 (by simp; omega)]; simp [wsum, wgt]
  have hz' : wsum 0 (a ++ [x, y] ++ b) = wsum 0 a + s + wsum 0 b := by
    rw [wsum_append, wsum_append, wsum_par b _ 0 (by simp; omega), wsum_par [x, y] _ 0 (by simp; omega), ← hxy]; simp [wsum, wgt]
  rw [xor16 _ hr.1 hr.2] at hs
  rw [xor16 _ hr'.1 hr'.2]
  have ha := wsum_nonneg a 0
  have hb := wsum_nonneg b 0
  rw [hz] at h1 h2
  rw [hz'] at h1' h2'
  generalize netI 0 0 (a ++ [0, 0] ++ b) = v at *
  generalize netI 0 0 (a ++ [x, y] ++ b) = v' at *
  omega

/-! The frames' sum -/
def n32 (x : BitVec 32) : Int := (x.toNat : Int)
theorem n32_inj {x y : BitVec 32} (h : n32 x = n32 y) : x = y := by unfold n32 at h; exact BitVec.eq_of_toNat_eq (by omega)
theorem n32_xor (x y : BitVec 32) : bits .xor .u32 (n32 x) (n32 y) = n32 (x ^^^ y) := by
  unfold n32; rw [u32_xor_nat _ _ x.isLt y.isLt, BitVec.toNat_xor]
theorem n32_and (x y : BitVec 32) : bits .and .u32 (n32 x) (n32 y) = n32 (x &&& y) := by
  unfold n32; rw [u32_and_nat _ _ x.isLt y.isLt, BitVec.toNat_and]
theorem n32_half (x : BitVec 32) : n32 x / (2 : Int) = n32 (x >>> 1) := by
  unfold n32; simp [Nat.shiftRight_eq_div_pow]
theorem n32_mul (x y : BitVec 32) : n32 x * n32 y % 4294967296 = n32 (x * y) := by
  unfold n32; simp
abbrev poly : BitVec 32 := 3988292384#32
/-- one bit -/
def cB (x : BitVec 32) : BitVec 32 := (x >>> 1) ^^^ (if x.getLsbD 0 then poly else 0)
theorem and_one (x : BitVec 32) : x &&& 1#32 = if x.getLsbD 0 then 1#32 else 0#32 := by
  apply BitVec.eq_of_getLsbD_eq
  intro i hi
  rw [BitVec.getLsbD_and, BitVec.getLsbD_one]
  by_cases h : x.getLsbD 0 = true
  · rw [if_pos h, BitVec.getLsbD_one]
    by_cases h0 : i = 0
    · subst h0; simp [h]
    · simp [h0]
  · have h' : x.getLsbD 0 = false := Bool.not_eq_true _ ▸ h
    rw [if_neg h]
    by_cases h0 : i = 0
    · subst h0; rw [h']; simp
    · simp [h0]
theorem crcBit_bv (x : BitVec 32) : crcBitI (n32 x) = n32 (cB x) := by
  unfold crcBitI cB
  rw [n32_half, show (1 : Int) = n32 1#32 by decide, n32_and, show (3988292384 : Int) = n32 poly by decide, n32_mul, n32_xor, and_one]
  split <;> simp
/-- one bit of the reference, at bit k of c -/
def rcB (c : BitVec 32) (k : Nat) (x : BitVec 32) : BitVec 32 := (x >>> 1) ^^^ (if (x ^^^ (c >>> k)).getLsbD 0 then poly else 0)
theorem lsb_par (x : BitVec 32) : x.getLsbD 0 = decide (x.toNat % 2 = 1) := by
  rw [BitVec.getLsbD, Nat.testBit_zero]
theorem rcrcBit_bv (u : UInt8) (k : Nat) (x : BitVec 32) : rcrcBitI u k (n32 x) = n32 (rcB (BitVec.ofNat 32 u.toNat) k x) := by
  have hu := u.toNat_lt
  unfold rcrcBitI rcB
  simp only []
  have hd : ((u.toNat : Int) / 2 ^ k) = (((BitVec.ofNat 32 u.toNat) >>> k).toNat : Int) := by
    rw [BitVec.toNat_ushiftRight, Nat.shiftRight_eq_div_pow, BitVec.toNat_ofNat, Nat.mod_eq_of_lt (by omega)]
    simp
  have hc : ((n32 x + (u.toNat : Int) / 2 ^ k) % 2 = 1) ↔ (x ^^^ (BitVec.ofNat 32 u.toNat >>> k)).getLsbD 0 = true := by
    rw [hd, BitVec.getLsbD_xor, lsb_par, lsb_par]
    unfold n32
    generalize ((BitVec.ofNat 32 u.toNat) >>> k).toNat = c
    generalize x.toNat = y
    rcases Nat.mod_two_eq_zero_or_one c with h | h <;> rcases Nat.mod_two_eq_zero_or_one y with h' | h' <;> simp [h, h'] <;> omega
  rw [n32_half]
  by_cases h : (x ^^^ (BitVec.ofNat 32 u.toNat >>> k)).getLsbD 0 = true
  · rw [if_pos (hc.2 h), if_pos h, show (3988292384 : Int) = n32 poly by decide, n32_xor]
  · rw [if_neg (fun e => h (hc.1 e)), if_neg h]; simp
theorem cB_xor (c x : BitVec 32) (k : Nat) : cB (x ^^^ c >>> k) = rcB c k x ^^^ c >>> (k + 1) := by
  unfold cB rcB
  rw [BitVec.ushiftRight_xor_distrib, ← BitVec.shiftRight_add]
  ac_rfl
def cBs : Nat → BitVec 32 → BitVec 32
  | 0, x => x
  | k + 1, x => cB (cBs k x)
theorem crcBits_bv (k : Nat) (x : BitVec 32) : crcBitsI k (n32 x) = n32 (cBs k x) := by
  induction k with
  | zero => rfl
  | succ k ih => rw [crcBitsI, ih, crcBit_bv]; rfl
theorem rcrcBits_bv (u : UInt8) (x : BitVec 32) (k : Nat) : rcrcBitsI u k (n32 x) = n32 (cBs k (x ^^^ BitVec.ofNat 32 u.toNat) ^^^ (BitVec.ofNat 32 u.toNat) >>> k) := by
  induction k with
  | zero => simp only [rcrcBitsI, cBs, BitVec.ushiftRight_zero, BitVec.xor_assoc, BitVec.xor_self, BitVec.xor_zero]
  | succ k ih =>
    rw [rcrcBitsI, ih, rcrcBit_bv, cBs]
    generalize cBs k (x ^^^ BitVec.ofNat 32 u.toNat) = q
    generalize BitVec.ofNat 32 u.toNat = c
    have h := cB_xor c (q ^^^ c >>> k) k
    rw [BitVec.xor_assoc, BitVec.xor_self, BitVec.xor_zero] at h
    rw [h, BitVec.xor_assoc, BitVec.xor_self, BitVec.xor_zero]
theorem byte_n32 (u : UInt8) : (u.toNat : Int) = n32 (BitVec.ofNat 32 u.toNat) := by
  have := u.toNat_lt
  unfold n32; simp only [BitVec.toNat_ofNat]; omega
def cByte (x : BitVec 32) (u : UInt8) : BitVec 32 := cBs 8 (x ^^^ BitVec.ofNat 32 u.toNat)
theorem crcByte_bv (x : BitVec 32) (u : UInt8) : crcByteI (n32 x) u = n32 (cByte x u) := by
  rw [crcByteI, byte_n32, n32_xor, crcBits_bv]; rfl
theorem shr8 (u : UInt8) : (BitVec.ofNat 32 u.toNat) >>> 8 = 0#32 := by
  have := u.toNat_lt
  apply BitVec.eq_of_toNat_eq
  rw [BitVec.toNat_ushiftRight, Nat.shiftRight_eq_div_pow, BitVec.toNat_ofNat]
  simp; omega
theorem rcrcByte_bv (x : BitVec 32) (u : UInt8) : rcrcBitsI u 8 (n32 x) = n32 (cByte x u) := by
  rw [rcrcBits_bv, shr8, BitVec.xor_zero]; rfl
def cAll (x : BitVec 32) (l : List UInt8) : BitVec 32 := l.foldl cByte x
theorem crc_bv (l : List UInt8) : ∀ x, crcI (n32 x) l = n32 (cAll x l) := by
  induction l with
  | nil => intro x; rfl
  | cons u l ih => intro x; rw [crcI, List.foldl_cons, crcByte_bv]; exact ih _
theorem rcrc_bv (l : List UInt8) : ∀ x, rcrcI (n32 x) l = n32 (cAll x l) := by
  induction l with
  | nil => intro x; rfl
  | cons u l ih => intro x; rw [rcrcI, List.foldl_cons, rcrcByte_bv]; exact ih _
theorem not32 (x : BitVec 32) : bits .xor .u32 4294967295 (n32 x) = 4294967295 - n32 x := by
  rw [show (4294967295 : Int) = n32 (BitVec.allOnes 32) by decide, n32_xor, BitVec.allOnes_xor]
  unfold n32
  rw [BitVec.toNat_not, BitVec.toNat_allOnes]
  have := x.isLt
  omega
theorem crc_eq (bs : List UInt8) : bits .xor .u32 4294967295 (crcI 4294967295 bs) = 4294967295 - rcrcI 4294967295 bs := by
  rw [show (4294967295 : Int) = n32 4294967295#32 by decide, crc_bv, rcrc_bv]
  exact not32 _
theorem cB_inj {x y : BitVec 32} (h : cB x = cB y) : x = y := by
  have key : ∀ z : BitVec 32, (cB z).getLsbD 31 = z.getLsbD 0 := by
    intro z
    unfold cB
    rw [BitVec.getLsbD_xor, BitVec.getLsbD_ushiftRight]
    have h31 : z.getLsbD (1 + 31) = false := BitVec.getLsbD_of_ge _ _ (by decide)
    rw [h31]
    by_cases hz : z.getLsbD 0 = true
    · rw [if_pos hz, hz]; decide
    · have hz' : z.getLsbD 0 = false := Bool.not_eq_true _ ▸ hz
      rw [if_neg hz, hz']; decide
  have h0 : x.getLsbD 0 = y.getLsbD 0 := by rw [← key x, ← key y, h]
  have hs : x >>> 1 = y >>> 1 := by
    unfold cB at h
    rw [h0] at h
    have := congrArg (· ^^^ (if y.getLsbD 0 then poly else 0)) h
    simpa [BitVec.xor_assoc] using this
  apply BitVec.eq_of_getLsbD_eq
  intro i hi
  cases i with
  | zero => exact h0
  | succ i =>
    have := congrArg (fun z : BitVec 32 => z.getLsbD i) hs
    simp only [BitVec.getLsbD_ushiftRight] at this
    rw [show i + 1 = 1 + i by omega]
    exact this
theorem cBs_inj (k : Nat) {x y : BitVec 32} (h : cBs k x = cBs k y) : x = y := by
  induction k with
  | zero => exact h
  | succ k ih => exact ih (cB_inj h)
theorem cByte_inj {x y : BitVec 32} (u : UInt8) (h : cByte x u = cByte y u) : x = y := by
  have := cBs_inj 8 h
  have h2 := congrArg (· ^^^ BitVec.ofNat 32 u.toNat) this
  simpa [BitVec.xor_assoc] using h2
theorem cByte_inj2 {x : BitVec 32} {u v : UInt8} (h : cByte x u = cByte x v) : u = v := by
  have := cBs_inj 8 h
  have h2 := congrArg (x ^^^ ·) this
  simp only [← BitVec.xor_assoc, BitVec.xor_self, BitVec.zero_xor] at h2
  have h3 := congrArg BitVec.toNat h2
  simp only [BitVec.toNat_ofNat] at h3
  have := u.toNat_lt; have := v.toNat_lt
  exact UInt8.toNat_inj.1 (by omega)
theorem cAll_inj (l : List UInt8) : ∀ {x y : BitVec 32}, cAll x l = cAll y l → x = y := by
  induction l with
  | nil => intro x y h; exact h
  | cons u l ih => intro x y h; exact cByte_inj u (ih h)
theorem crc_apart (l r : List UInt8) (u v : UInt8) (h : u ≠ v) : crcI 4294967295 (l ++ [u] ++ r) ≠ crcI 4294967295 (l ++ [v] ++ r) := by
  rw [show (4294967295 : Int) = n32 4294967295#32 by decide, crc_bv, crc_bv]
  intro e
  have := n32_inj e
  simp only [cAll, List.foldl_append, List.foldl_cons, List.foldl_nil] at this
  exact h (cByte_inj2 (cAll_inj r this))
theorem crc_not_apart (l m : List UInt8) (h : crcI 4294967295 l ≠ crcI 4294967295 m) : bits .xor .u32 4294967295 (crcI 4294967295 l) ≠ bits .xor .u32 4294967295 (crcI 4294967295 m) := by
  rw [show (4294967295 : Int) = n32 4294967295#32 by decide, crc_bv, crc_bv] at *
  rw [show n32 4294967295#32 = (4294967295 : Int) by decide, not32, not32]
  omega
end Go.Proofs.Ytcnfmkhkibfpbaa
