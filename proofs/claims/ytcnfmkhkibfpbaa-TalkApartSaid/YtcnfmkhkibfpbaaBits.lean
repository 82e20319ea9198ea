/- The walk of Bits: whole bytes, the highest first. -/
import Derived.Test.YtcnfmkhkibfpbaaOut
namespace Go.Proofs.Ytcnfmkhkibfpbaa
open Go Go.RowKit
/-- The state behind t bits of x, of 8 m of them. -/
def stB (bs : List UInt8) (m x : Nat) : Nat → List UInt8
  | 0 => bs
  | t + 1 => putB (stB bs m x t) (bs.length + t / 8) (t % 8) (x / 2 ^ (8 * m - 1 - t) % 2)
theorem stB_len (bs : List UInt8) (m x t : Nat) : (stB bs m x t).length = bs.length + (t + 7) / 8 := by
  induction t with
  | zero => rfl
  | succ t ih =>
    show (putB _ _ _ _).length = _
    unfold putB
    by_cases h : t % 8 = 0
    · rw [if_pos h, List.length_append, ih]; simp; omega
    · rw [if_neg h, List.length_set, ih]; omega
/-- The bytes of a number, the highest first. -/
def be (m x : Nat) : List UInt8 := (List.range m).map fun j => UInt8.ofNat (x / 256 ^ (m - 1 - j) % 256)
def byte8 (b : Nat → Nat) : UInt8 :=
  (((((((0 ||| UInt8.ofNat (b 0 * 128)) ||| UInt8.ofNat (b 1 * 64)) ||| UInt8.ofNat (b 2 * 32)) ||| UInt8.ofNat (b 3 * 16)) ||| UInt8.ofNat (b 4 * 8)) ||| UInt8.ofNat (b 5 * 4)) ||| UInt8.ofNat (b 6 * 2)) ||| UInt8.ofNat (b 7 * 1)
theorem byte8_eq : ∀ c : Fin 256, byte8 (fun i => c.val / 2 ^ (7 - i) % 2) = UInt8.ofNat c.val := by decide +kernel
theorem set_last (bs : List UInt8) (x y : UInt8) (q : Nat) (h : q = bs.length) : (bs ++ [x]).set q y = bs ++ [y] ∧ (bs ++ [x]).getD q 0 = x := by
  subst h
  constructor
  · rw [List.set_append_right _ _ (Nat.le_refl _), Nat.sub_self]; rfl
  · simp [List.getD_eq_getElem?_getD]
theorem eight (bs cs : List UInt8) (m x j : Nat) (hj : j < m) (h : stB bs m x (8 * j) = bs ++ cs) (hc : cs.length = j) : stB bs m x (8 * (j + 1)) = bs ++ (cs ++ [UInt8.ofNat (x / 256 ^ (m - 1 - j) % 256)]) := by
  have hq : bs.length + j = (bs ++ cs).length := by rw [List.length_append, hc]
  have hb : ∀ i, i < 8 → x / 2 ^ (8 * m - 1 - (8 * j + i)) % 2 = (x / 256 ^ (m - 1 - j) % 256) / 2 ^ (7 - i) % 2 := by
    intro i hi
    have e1 : 8 * m - 1 - (8 * j + i) = 8 * (m - 1 - j) + (7 - i) := by omega
    rw [e1, Nat.pow_add, ← Nat.div_div_eq_div_mul, Nat.pow_mul]
    generalize x / (2 ^ 8) ^ (m - 1 - j) = y
    show y / 2 ^ (7 - i) % 2 = _
    have hy : y = 256 * (y / 256) + y % 256 := by omega
    rcases (by omega : i = 0 ∨ i = 1 ∨ i = 2 ∨ i = 3 ∨ i = 4 ∨ i = 5 ∨ i = 6 ∨ i = 7) with rfl | rfl | rfl | rfl | rfl | rfl | rfl | rfl <;> simp <;> omega
  have s : ∀ i, i < 8 → stB bs m x (8 * j + (i + 1)) = putB (stB bs m x (8 * j + i)) (bs.length + j) i ((x / 256 ^ (m - 1 - j) % 256) / 2 ^ (7 - i) % 2) := by
    intro i hi
    rw [← hb i hi]
    have e : stB bs m x (8 * j + i + 1) = putB (stB bs m x (8 * j + i)) (bs.length + (8 * j + i) / 8) ((8 * j + i) % 8) (x / 2 ^ (8 * m - 1 - (8 * j + i)) % 2) := rfl
    rw [show 8 * j + (i + 1) = 8 * j + i + 1 from rfl, e, show (8 * j + i) / 8 = j by omega, show (8 * j + i) % 8 = i by omega]
  have hlt : x / 256 ^ (m - 1 - j) % 256 < 256 := Nat.mod_lt _ (by decide)
  generalize x / 256 ^ (m - 1 - j) % 256 = c at *
  rw [show 8 * (j + 1) = 8 * j + (7 + 1) by omega, s 7 (by omega), show 8 * j + 7 = 8 * j + (6 + 1) by omega, s 6 (by omega), show 8 * j + 6 = 8 * j + (5 + 1) by omega, s 5 (by omega),
    show 8 * j + 5 = 8 * j + (4 + 1) by omega, s 4 (by omega), show 8 * j + 4 = 8 * j + (3 + 1) by omega, s 3 (by omega), show 8 * j + 3 = 8 * j + (2 + 1) by omega, s 2 (by omega),
    show 8 * j + 2 = 8 * j + (1 + 1) by omega, s 1 (by omega), show 8 * j + 1 = 8 * j + (0 + 1) by omega, s 0 (by omega), Nat.add_zero, h]
  have hfin := byte8_eq ⟨c, hlt⟩
  rw [← List.append_assoc, ← hfin]
  unfold byte8
  generalize bs ++ cs = l at *
  simp only [putB, if_true, if_false, (set_last l _ _ _ hq).1, (set_last l _ 0 _ hq).2, Nat.succ_ne_zero]
theorem stB_all (bs : List UInt8) (m x : Nat) : stB bs m x (8 * m) = bs ++ be m x := by
  have : ∀ j, j ≤ m → stB bs m x (8 * j) = bs ++ ((List.range j).map fun j => UInt8.ofNat (x / 256 ^ (m - 1 - j) % 256)) := by
    intro j
    induction j with
    | zero => intro _; simp [stB]
    | succ j ih =>
      intro hj
      rw [eight bs _ m x j (by omega) (ih (by omega)) (by simp), List.range_succ, List.map_append]
      rfl
  exact this m (Nat.le_refl _)
def bes (m : Nat) (xs : List Nat) : List UInt8 := (xs.map (be m)).flatten
theorem be_len (m x : Nat) : (be m x).length = m := by simp [be]
theorem bes_snoc (m : Nat) (xs : List Nat) (x : Nat) : bes m (xs ++ [x]) = bes m xs ++ be m x := by simp [bes]
theorem bes_len (m : Nat) (xs : List Nat) : (bes m xs).length = m * xs.length := by
  induction xs with
  | nil => rfl
  | cons x xs ih => show (be m x ++ bes m xs).length = _; rw [List.length_append, be_len, ih, List.length_cons, Nat.mul_succ]; omega
abbrev N64 (x : Nat) : Value := .int .u64 x
theorem RdV.chgV {w w' : World} {lv : Value} {vs : List Value} {S : Nat → Prop} (h : RdV w lv vs) (c : Chg S w w') (hn : ∀ g, lv.ownBlock = some g → ¬ S g) : RdV w' lv vs := by
  obtain ⟨a, c', rfl, hh⟩ := h
  refine ⟨a, c', rfl, fun j u hu => ?_⟩
  obtain ⟨g, off, rfl, hc⟩ := hh j u hu
  exact ⟨g, off, rfl, c.cell hc (hn g rfl)⟩
theorem bit_val (x k : Nat) (hx : x < 18446744073709551616) : bits .and .u64 ((x : Int) / 2 ^ k) 1 % 256 = ((x / 2 ^ k % 2 : Nat) : Int) := by
  have e : ((x : Int) / 2 ^ k) = ((x / 2 ^ k : Nat) : Int) := by rw [Int.natCast_ediv]; simp
  have hle : x / 2 ^ k ≤ x := Nat.div_le_self _ _
  rw [e]
  have := u64_and_nat (x / 2 ^ k) 1 (by omega) (by omega)
  rw [show (1 : Int) = ((1 : Nat) : Int) from rfl, this, Nat.and_one_is_mod]
  omega
set_option maxHeartbeats 4000000 in
theorem bits_t (w : World) (base p : Nat) (v : Value) (bs : List UInt8) (h : OutAt w base p v bs (8 * bs.length)) (hbase : base ≤ w.heap.size) (m : Nat) (hm1 : 1 ≤ m) (hm8 : m ≤ 8)
    (lv : Value) (xs : List Nat) (hx : RdV w lv (xs.map N64)) (hxb : ∀ g, lv.ownBlock = some g → ¬ (g = p ∨ v.ownBlock = some g)) (hxr : ∀ x ∈ xs, x < 18446744073709551616) (hroom : bs.length + m * xs.length ≤ 65536) (hxl : xs.length ≤ 65536) :
    Calls Try.prog 37 #[.pointer (some ⟨p, 0, none⟩), .int .i64 (8 * m : Nat), lv] w fun e w' => e = .returned (.int .i64 0) ∧ ∃ v', OutAt w' base p v' (bs ++ bes m xs) (8 * (bs ++ bes m xs).length) ∧
      Chg (fun k => k = p ∨ v.ownBlock = some k) w w' ∧ (∀ k, v'.ownBlock = some k → v.ownBlock = some k ∨ w.heap.size ≤ k) := by
  have H := hid h
  have HX := hid hx
  have HXB := hid hxb
  have HXR := hid hxr
  obtain ⟨xa, xc, rfl, _⟩ := hx
  have hll : (xs.map N64).length = xs.length := List.length_map _
  rw [hll] at HX HXB ⊢
  clear hxb hxr h hll
  have hmul : 8 * m * xs.length + 8 * bs.length ≤ 524288 := by
    have : 8 * m * xs.length = 8 * (m * xs.length) := Nat.mul_assoc _ _ _
    omega
  obtain ⟨M, hM⟩ : ∃ M, 8 * m * xs.length = M := ⟨_, rfl⟩
  have hMI : ((8 * m : Nat) : Int) * (xs.length : Int) = (M : Int) := by rw [← hM]; exact (Int.natCast_mul _ _).symm
  have HM := hid hM
  obtain ⟨Wd, hWd⟩ : ∃ Wd, 8 * m = Wd := ⟨_, rfl⟩
  have HW := hid hWd
  rw [hM] at hmul
  rw [hWd] at hMI ⊢
  clear hM
  have hw1 : 1 ≤ Wd := by omega
  have hw2 : Wd ≤ 64 := by omega
  clear hWd
  go_enter Try.func37, Try.ntmps37
  go_wp2_with fail
  refine (room_t w base p v bs (8 * bs.length) H.out (by omega) M (by omega)).mono ?_
  rintro e w' ⟨he, rfl⟩
  obtain rfl : e = .returned (.bool true) := by rw [he, decide_eq_true (by omega)]
  go_wp2_with fail
  go_loopw [35] (fun j wr => ∃ i : Nat, j = .int .i64 i ∧ i ≤ xs.length ∧ ∃ v', OutAt wr base p v' (bs ++ bes m (xs.take i)) (8 * (bs ++ bes m (xs.take i)).length) ∧
    Chg (fun k => k = p ∨ v.ownBlock = some k) w wr ∧ (∀ k, v'.ownBlock = some k → v.ownBlock = some k ∨ w.heap.size ≤ k)) (fun j _ => xs.length - (intOf j).toNat)
  case atStart => exact ⟨0, rfl, by omega, v, by simpa [bes] using H.out, Chg.refl _ _, fun k hk => .inl hk⟩
  case round =>
    obtain ⟨i, rfl, hi, v1, ho, hc, hvb⟩ := hrel
    have H1 := hid ho
    have C1 := hid hc
    have V1 := hid hvb
    clear ho hc hvb
    by_cases hlt : i < xs.length
    · obtain ⟨_, _, hsl, hcell⟩ := HX.out.chgV C1.out HXB.out
      injection hsl with e1 e2 e3
      clear e2
      subst e1 e3
      obtain ⟨g, off, rfl, hv⟩ := hcell i (N64 xs[i]) (by rw [List.getElem?_map, List.getElem?_eq_getElem hlt]; rfl)
      have hxr := HXR.out xs[i] (List.getElem_mem hlt)
      have HS := hid (take_snoc hlt)
      have hcl : (bs ++ bes m (xs.take i)).length + m ≤ 65536 := by
        rw [List.length_append, bes_len, List.length_take, Nat.min_eq_left hi]
        have h2 : m * (i + 1) ≤ m * xs.length := Nat.mul_le_mul_left _ hlt
        rw [Nat.mul_succ] at h2
        omega
      generalize xs[i] = x at *
      obtain ⟨cs, hcs⟩ : ∃ cs, bs ++ bes m (xs.take i) = cs := ⟨_, rfl⟩
      have HCS := hid hcs
      rw [hcs] at H1 hcl
      clear hcell hcs
      go_wp2_with fail
      go_loopw [9] (fun z wt => ∃ t : Nat, z = .int .i64 ((Wd : Int) - 1 - t) ∧ t ≤ Wd ∧ ∃ v', OutAt wt base p v' (stB cs m x t) (8 * cs.length + t) ∧
        Chg (fun k => k = p ∨ v.ownBlock = some k) w wt ∧ (∀ k, v'.ownBlock = some k → v.ownBlock = some k ∨ w.heap.size ≤ k)) (fun z _ => (intOf z + 1).toNat)
      case atStart => exact ⟨0, by go_num, by omega, v1, H1.out, C1.out, V1.out⟩
      case round =>
        obtain ⟨t, rfl, ht, v2, ho, hc, hvb⟩ := hrel
        have H2 := hid ho
        have C2 := hid hc
        have V2 := hid hvb
        clear ho hc hvb
        by_cases htl : t < Wd
        · go_wp2_with fail
          rw [bit_val x _ hxr]
          have HN := hid (stB_len cs m x t)
          have HST := hid (show stB cs m x (t + 1) = putB (stB cs m x t) (cs.length + t / 8) (t % 8) (x / 2 ^ (8 * m - 1 - t) % 2) from rfl)
          refine (put_t wr base p v2 (stB cs m x t) (8 * cs.length + t) (cs.length + t / 8) (t % 8) (by omega) (by omega) H2.out (by rw [HN.out]; omega) (by have := HW.out; omega) (Nat.le_trans hbase C2.out.size) (x / 2 ^ (Wd - 1 - t) % 2) (by omega)).mono ?_
          rintro e w3 ⟨rfl, v3, ho, hc, hvb⟩
          rw [← HW.out, ← HST.out] at ho
          have H3 := hid ho
          have C3 := hid (C2.out.trans hc (fun k hk e => by
            rcases e with e | e
            · exact .inl e
            · rcases V2.out k e with e | e
              · exact .inr e
              · omega))
          have V3 : Hid (∀ k, v3.ownBlock = some k → v.ownBlock = some k ∨ w.heap.size ≤ k) := fun k hk => by
            rcases hvb k hk with e | e
            · exact V2.out k e
            · exact .inr (Nat.le_trans C2.out.size e)
          clear ho hc hvb
          go_wp2
          refine ⟨⟨t + 1, by go_num, by omega, v3, H3.out, C3.out, V3.out⟩, by simp [intOf]; omega⟩
        · obtain rfl : t = Wd := by omega
          have H4 := H2.out
          rw [← HW.out, stB_all] at H4
          have hcl2 : 8 * cs.length + 8 * m = 8 * (bs ++ bes m (xs.take (i + 1))).length := by
            rw [HS.out, bes_snoc, ← List.append_assoc, HCS.out, List.length_append, be_len]; omega
          rw [hcl2, ← HCS.out, List.append_assoc, ← bes_snoc, ← HS.out] at H4
          have H5 := hid H4
          clear H4 hcl2
          go_wp2
          go_roundw
          case rel => exact ⟨i + 1, by go_num, by omega, v2, H5.out, C2.out, V2.out⟩
          case measure => simp [intOf]; omega
    · obtain rfl : i = xs.length := by omega
      rw [List.take_length] at H1
      go_wp2
      go_ret
      exact ⟨rfl, v1, H1.out, C1.out, V1.out⟩
end Go.Proofs.Ytcnfmkhkibfpbaa
