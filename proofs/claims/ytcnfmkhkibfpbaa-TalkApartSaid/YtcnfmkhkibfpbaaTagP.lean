/- The plain law of layer 3's tag: the program's is the reference's. -/
import Derived.Test.YtcnfmkhkibfpbaaRTag
namespace Go.Proofs.Ytcnfmkhkibfpbaa
open Go Go.RowKit

theorem add_disj (y : BitVec 64) : y <<< 1 + y >>> 63 = y <<< 1 ||| y >>> 63 := by
  apply BitVec.add_eq_or_of_and_eq_zero
  apply BitVec.eq_of_getLsbD_eq
  intro i hi
  rw [BitVec.getLsbD_and, BitVec.getLsbD_shiftLeft, BitVec.getLsbD_ushiftRight, BitVec.getLsbD_zero]
  by_cases h : i = 0
  · subst h; simp
  · have : y.getLsbD (63 + i) = false := BitVec.getLsbD_of_ge _ _ (by omega)
    rw [this]; simp
theorem rotl_bit (x : BitVec 64) (k i : Nat) (hk : k ≤ 64) (hi : i < 64) : (rotl k x).getLsbD i = if i < k then x.getLsbD (64 - k + i) else x.getLsbD (i - k) := by
  unfold rotl
  rw [BitVec.getLsbD_or, BitVec.getLsbD_shiftLeft, BitVec.getLsbD_ushiftRight]
  by_cases h : i < k
  · simp [h]
  · rw [if_neg h]
    have : x.getLsbD (64 - k + i) = false := BitVec.getLsbD_of_ge _ _ (by omega)
    rw [this]; simp [h, hi]
theorem turn_rotl (x : BitVec 64) (k : Nat) (hk : k ≤ 63) : turnB k x = rotl k x := by
  induction k with
  | zero =>
    apply BitVec.eq_of_getLsbD_eq
    intro i hi
    rw [rotl_bit x 0 i (by omega) hi]; simp [turnB]
  | succ k ih =>
    rw [turnB, ih (by omega), add_disj]
    apply BitVec.eq_of_getLsbD_eq
    intro i hi
    rw [BitVec.getLsbD_or, BitVec.getLsbD_shiftLeft, BitVec.getLsbD_ushiftRight, rotl_bit x (k + 1) i (by omega) hi]
    by_cases h0 : i = 0
    · subst h0
      rw [rotl_bit x k (63 + 0) (by omega) (by omega)]
      rw [if_neg (by omega), if_pos (by omega)]
      simp
    · have e : (rotl k x).getLsbD (63 + i) = false := BitVec.getLsbD_of_ge _ _ (by omega)
      rw [e, rotl_bit x k (i - 1) (by omega) (by omega)]
      have h1 : decide (i < 1) = false := by simp; omega
      rw [h1]
      simp only [hi, decide_true, Bool.not_false, Bool.and_true, Bool.true_and, Bool.or_false]
      by_cases hk2 : i < k + 1
      · rw [if_pos (by omega), if_pos hk2]; congr 1; omega
      · rw [if_neg (by omega), if_neg hk2]; congr 1; omega
theorem rround_eq (v : Sip) : v.rround = v.round := by
  unfold Sip.rround Sip.round
  simp only [turn_rotl _ 13 (by decide), turn_rotl _ 16 (by decide), turn_rotl _ 21 (by decide), turn_rotl _ 17 (by decide), turn_rotl _ 32 (by decide)]
theorem rrounds_eq (n : Nat) (v : Sip) : Sip.rrounds n v = Sip.rounds n v := by
  induction n with
  | zero => rfl
  | succ n ih => rw [Sip.rrounds, ih, rround_eq]; rfl
theorem rword_eq (v : Sip) (m : BitVec 64) : v.rword m = v.word m := by
  unfold Sip.rword Sip.word
  rw [rrounds_eq]; rfl
/-- The number of bytes, the lowest first. -/
def le : List UInt8 → Nat
  | [] => 0
  | u :: l => u.toNat + 256 * le l
theorem le_lt (l : List UInt8) : le l < 256 ^ l.length := by
  induction l with
  | nil => simp [le]
  | cons u l ih => have := u.toNat_lt; simp only [le, List.length_cons, Nat.pow_succ]; omega
theorem or_add (a b k : Nat) (h : a < 2 ^ k) : a ||| (b * 2 ^ k) = a + b * 2 ^ k := by
  rw [Nat.or_comm, Nat.add_comm, ← Nat.shiftLeft_eq, Nat.shiftLeft_add_eq_or_of_lt h]
theorem lowB_nat (l : List UInt8) : ∀ (m : BitVec 64) (i : Nat), m.toNat < 2 ^ (8 * i) → i + l.length ≤ 8 → (lowB m i l).toNat = m.toNat + le l * 2 ^ (8 * i) := by
  induction l with
  | nil => intro m i _ _; simp [lowB, le]
  | cons u l ih =>
    intro m i hm hi
    simp only [List.length_cons] at hi
    have hu := u.toNat_lt
    have hp : 2 ^ (8 * (i + 1)) = 2 ^ (8 * i) * 256 := by rw [show 8 * (i + 1) = 8 * i + 8 by omega, Nat.pow_add]
    have hle : 2 ^ (8 * (i + 1)) ≤ 2 ^ 64 := Nat.pow_le_pow_right (by decide) (by omega)
    have hsh : (BitVec.ofNat 64 u.toNat <<< (8 * i)).toNat = u.toNat * 2 ^ (8 * i) := by
      rw [BitVec.toNat_shiftLeft, BitVec.toNat_ofNat, Nat.mod_eq_of_lt (show u.toNat < 2 ^ 64 by omega), Nat.shiftLeft_eq]
      refine Nat.mod_eq_of_lt (Nat.lt_of_lt_of_le ?_ hle)
      rw [hp, Nat.mul_comm]
      exact Nat.mul_lt_mul_of_pos_left (by omega) (Nat.pow_pos (by decide))
    have hor : (m ||| BitVec.ofNat 64 u.toNat <<< (8 * i)).toNat = m.toNat + u.toNat * 2 ^ (8 * i) := by
      rw [BitVec.toNat_or, hsh, or_add _ _ _ hm]
    rw [lowB, ih _ _ ?_ (by omega), hor, le, hp]
    · rw [Nat.add_mul, Nat.add_assoc, Nat.mul_comm 256, Nat.mul_assoc, Nat.mul_comm 256]
    · rw [hor, hp]
      have : u.toNat * 2 ^ (8 * i) ≤ 255 * 2 ^ (8 * i) := Nat.mul_le_mul_right _ (by omega)
      omega
/-- The bytes from number i on, k of them, 0 where there are none, the lowest first. -/
def leAt (bs : List UInt8) (i : Nat) : Nat → Nat
  | 0 => 0
  | k + 1 => (bat bs i).toNat + 256 * leAt bs (i + 1) k
theorem leAt_lt (bs : List UInt8) (k : Nat) : ∀ i, leAt bs i k < 256 ^ k := by
  induction k with
  | zero => intro i; simp [leAt]
  | succ k ih => intro i; have := ih (i + 1); have := bat_range bs i; simp only [leAt, Nat.pow_succ]; omega
theorem leAt_end (bs : List UInt8) (k : Nat) : ∀ i, bs.length ≤ i → leAt bs i k = 0 := by
  induction k with
  | zero => intro i _; rfl
  | succ k ih => intro i h; rw [leAt, ih (i + 1) (by omega), bat_ge h]; rfl
theorem leAt_le (bs : List UInt8) (k : Nat) : ∀ i, leAt bs i k = le ((bs.drop i).take k) := by
  induction k with
  | zero => intro i; simp [leAt, le]
  | succ k ih =>
    intro i
    by_cases h : i < bs.length
    · rw [leAt, ih, bat_lt h, List.drop_eq_getElem_cons h, List.take_succ_cons, le]; rfl
    · rw [leAt, ih, bat_ge (by omega), List.drop_eq_nil_of_le (by omega), List.drop_eq_nil_of_le (by omega)]; simp [le]
theorem bB_nat (bs : List UInt8) (i : Nat) : (bB bs i).toNat = (bat bs i).toNat := by
  have := bat_range bs i
  unfold bB; rw [BitVec.toNat_ofNat, Nat.mod_eq_of_lt (by omega)]
theorem rAux_nat (bs : List UInt8) (i : Nat) : ∀ j, j ≤ 8 → (rAux bs i j).toNat = leAt bs (8 * i + (8 - j)) j := by
  intro j
  induction j with
  | zero => intro _; simp [rAux, leAt]
  | succ j ih =>
    intro h
    have h1 := leAt_lt bs j (8 * i + (8 - j))
    have h2 := bat_range bs (8 * i + (7 - j))
    have hp : 256 ^ j ≤ 256 ^ 7 := Nat.pow_le_pow_right (by decide) (by omega)
    rw [rAux, BitVec.toNat_add, BitVec.toNat_shiftLeft, ih (by omega), bB_nat, leAt, Nat.shiftLeft_eq]
    rw [show 8 * i + (8 - (j + 1)) = 8 * i + (7 - j) by omega, show 8 * i + (7 - j) + 1 = 8 * i + (8 - j) by omega]
    omega
theorem words_eq (v : Sip) (bs : List UInt8) : ∀ m, m ≤ bs.length / 8 → Sip.rwords v bs m = Sip.words v bs m := by
  intro m
  induction m with
  | zero => intro _; rfl
  | succ m ih =>
    intro h
    rw [Sip.rwords, ih (by omega), rword_eq, Sip.words]
    congr 1
    rw [rWord, if_neg (by omega)]
    apply BitVec.eq_of_toNat_eq
    rw [rAux_nat bs m 8 (by decide), lowB_nat _ _ _ (by decide) (by rw [List.length_take]; omega), leAt_le]
    simp
theorem last_eq (bs : List UInt8) : rWord bs (bs.length / 8) = lowB 0 0 (bs.drop (8 * (bs.length / 8))) ||| BitVec.ofNat 64 bs.length <<< 56 := by
  have hl : (bs.drop (8 * (bs.length / 8))).length ≤ 7 := by rw [List.length_drop]; omega
  have hlo : (lowB 0 0 (bs.drop (8 * (bs.length / 8)))).toNat = le (bs.drop (8 * (bs.length / 8))) := by
    rw [lowB_nat _ _ _ (by decide) (by omega)]; simp
  have hlt : le (bs.drop (8 * (bs.length / 8))) < 2 ^ 56 := Nat.lt_of_lt_of_le (le_lt _) (by
    rw [show (2 : Nat) ^ 56 = 256 ^ 7 by decide]; exact Nat.pow_le_pow_right (by decide) hl)
  have hr : leAt bs (8 * (bs.length / 8)) 8 = le (bs.drop (8 * (bs.length / 8))) := by
    rw [leAt_le, List.take_of_length_le (by omega)]
  have h1 : (BitVec.ofNat 64 (bs.length % 256) <<< 56).toNat = (bs.length % 256) * 2 ^ 56 := by
    rw [BitVec.toNat_shiftLeft, BitVec.toNat_ofNat, Nat.shiftLeft_eq]; omega
  have h2 : (BitVec.ofNat 64 bs.length <<< 56).toNat = (bs.length % 256) * 2 ^ 56 := by
    rw [BitVec.toNat_shiftLeft, BitVec.toNat_ofNat, Nat.shiftLeft_eq]; omega
  rw [rWord, if_pos rfl]
  apply BitVec.eq_of_toNat_eq
  rw [BitVec.toNat_or, hlo, h2, or_add _ _ _ hlt, BitVec.toNat_add, h1, rAux_nat _ _ 8 (by decide), show 8 * (bs.length / 8) + (8 - 8) = 8 * (bs.length / 8) by omega, hr]
  omega
theorem tag_eq (x y : BitVec 64) (bs : List UInt8) : tagB x y bs = rtagB x y bs := by
  unfold tagB rtagB
  rw [Sip.rwords, words_eq _ _ _ (Nat.le_refl _), rword_eq, last_eq, Sip.rtail, Sip.tail, rrounds_eq]
end Go.Proofs.Ytcnfmkhkibfpbaa
