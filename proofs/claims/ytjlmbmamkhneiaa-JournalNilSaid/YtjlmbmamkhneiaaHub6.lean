/- The law HubShut: its walk. -/
import Derived.Test.YtjlmbmamkhneiaaHub5
namespace Go.Proofs.Ytjlmbmamkhneiaa
open Go Go.RowKit Go.Conc
theorem cut_cases {w : World} {a : Option Addr} {len c : Nat} {xs : List Int} (h : RdI w (.slice a len c) xs) (B : Nat) :
    ∃ n ys, (((B : Int) < len ∧ n = B ∧ B ≤ c) ∨ (¬ (B : Int) < len ∧ n = len)) ∧ RdI w (.slice a n c) ys ∧ n = ys.length ∧ n ≤ B := by
  by_cases hb : (B : Int) < len
  · have h2 := h.len
    exact ⟨B, xs.take B, .inl ⟨hb, rfl, by omega⟩, h.cut (by omega), by rw [List.length_take]; omega, Nat.le_refl _⟩
  · exact ⟨len, xs, .inr ⟨hb, rfl⟩, h, h.len.1, by omega⟩
/-- The blocks of something that was there ahead of a hub are none of the hub's. -/
theorem old_apart {w : World} {a : Option Addr} {n c : Nat} {xs : List Int} (h : RdI w (.slice a n c) xs) {P : Nat → Prop} (hP : ∀ k, P k → w.heap.size ≤ k) (hne : xs ≠ []) : ∀ g, (Value.slice a n c).ownBlock = some g → ¬ P g := by
  intro g hg hp
  obtain ⟨a', c', e, h1, h2, h3⟩ := h
  injection e with e1 e2 e3
  subst e1 e2 e3
  cases xs with
  | nil => exact hne rfl
  | cons x xs =>
    obtain ⟨g', off, e, hc⟩ := h3 0 (I x) rfl
    subst e
    have hg' : g' = g := by simpa [Value.ownBlock] using hg
    subst hg'
    have := lt_of_cell hc
    have := hP _ hp
    omega
theorem low_new {R : Nat} : HubS.low ⟨[⟨true, [], 0⟩], R⟩ 0 := by intro t ht; simp at ht; subst ht; exact Nat.le_refl _
set_option maxHeartbeats 4000000 in
theorem shut_t (r : Int) (a1 a2 : Option Addr) (l1 c1 l2 c2 : Nat) (xs ys : List Int) (w : World) (h1 : RdI w (.slice a1 l1 c1) xs) (h2 : RdI w (.slice a2 l2 c2) ys) :
    Calls Try.prog 12 #[I r, .slice a1 l1 c1, .slice a2 l2 c2] w fun e w' => e = .returned (.bool true) ∧ Below w.heap.size w w' := by
  obtain ⟨n1, us, k1, r1, m1, b1⟩ := cut_cases h1 30
  obtain ⟨n2, vs, k2, r2, m2, b2⟩ := cut_cases h2 30
  have R1 := hid r1
  have R2 := hid r2
  clear h1 h2 r1 r2
  have hb1 : us.length ≤ 30 := by omega
  have hb2 : vs.length ≤ 30 := by omega
  have q1 := m1
  have q2 := m2
  have K : Hid (n1 = us.length ∧ n2 = vs.length) := ⟨m1, m2⟩
  clear m1 m2 b1 b2 q1 q2
  have hK1 : ∃ q, q = n1 := ⟨_, rfl⟩
  rcases k1 with ⟨k1, rfl, k1'⟩ | ⟨k1, rfl⟩ <;> rcases k2 with ⟨k2, rfl, k2'⟩ | ⟨k2, rfl⟩
  all_goals
    go_enter Try.func12, Try.ntmps12
    go_wp2_with fail
    refine (New_t r w).mono ?_
    rintro e w1 ⟨rfl, ha, hc⟩
    have hne1 := lt_of_block ha.cells
    have C0 := hid hc
    have A0 := hid ha
    generalize hh : w.heap.size = h at *
    have HH := hid hh
    clear ha hc hh
    go_wp2_with fail
    refine (Tap_t A0.out (by simp [HubS.new])).mono ?_
    rintro e w2 ⟨rfl, v, l, ha, hc, hb⟩
    have A1 : Hid (HubAt w2 h v l ⟨[⟨true, [], 0⟩], roomOf r⟩) := ha
    have C1 := hid (C0.out.trans hc (fun i hi e => by have := hubB_nil e; rw [HH.out] at hi; omega))
    have B1 : Hid (∀ k, HubB h v l k → w.heap.size ≤ k) := fun k hk => by
      rw [HH.out]
      rcases hb k hk with e | e
      · exact Nat.le_of_eq (hubB_nil e).symm
      · omega
    clear ha hc hb hne1 A0
    generalize roomOf r = R at *
    go_wp2_with fail
    refine (Post_t A1.out _ us (R1.out.new C1.out) (fun hne => old_apart R1.out B1.out hne) 0 low_new (by omega)).mono ?_
    rintro e w3 ⟨rfl, ha, hc⟩
    rw [after_one, tells_open R us [] 0 (Nat.zero_le _)] at ha
    obtain ⟨bf, hB⟩ : ∃ bf, us.take R = bf := ⟨_, rfl⟩
    obtain ⟨M, hM⟩ : ∃ M, us.length - R = M := ⟨_, rfl⟩
    have A2 : Hid (HubAt w3 h v l ⟨[⟨true, bf, M⟩], R⟩) := by
      rw [← hB, ← hM]
      have e : us.length - R = 0 + (us.length - R) := by omega
      rw [e]
      exact ha
    have C2 := hid (C1.out.trans hc (fun i hi e => by have := B1.out i e; omega))
    have hN : bf.length + M = us.length := by rw [← hB, ← hM, List.length_take]; omega
    have hGet : ∀ i, i < bf.length → bf[i]? = us[i]? := fun i hi => by rw [← hB] at hi ⊢; rw [List.getElem?_take_of_lt (by rw [List.length_take] at hi; omega)]
    have HGet := hid hGet
    clear ha hc C1 A1 hB hM hGet
    go_wp2_with fail
    refine (Len_t A2.out 0).mono ?_
    rintro e w4 ⟨he, rfl⟩
    obtain rfl : e = .returned (I bf.length) := he
    go_wp2_with fail
    refine (Missed_t A2.out 0).mono ?_
    rintro e w4 ⟨he, rfl⟩
    obtain rfl : e = .returned (I M) := he
    go_wp2_with fail
    refine (Shut_t A2.out 0).mono ?_
    rintro e w5 ⟨he, ha, hc⟩
    obtain rfl : e = .returned (.bool true) := he
    have A3 : Hid (HubAt w5 h v l ⟨[⟨false, bf, M⟩], R⟩) := ha
    have C3 := hid (C2.out.trans hc (fun i hi e => by have := B1.out i e; omega))
    clear ha hc C2 A2
    go_wp2_with fail
    refine (Shut_t A3.out 0).mono ?_
    rintro e w6 ⟨he, ha, hc⟩
    obtain rfl : e = .returned (.bool false) := he
    have A4 : Hid (HubAt w6 h v l ⟨[⟨false, bf, M⟩], R⟩) := ha
    have C4 := hid (C3.out.trans hc (fun i hi e => by have := B1.out i e; omega))
    clear ha hc C3 A3
    go_wp2_with fail
    refine (Post_t A4.out _ vs (R2.out.new C4.out) (fun hne => old_apart R2.out B1.out hne) M (by intro t ht; simp at ht; subst ht; exact Nat.le_refl _) (by omega)).mono ?_
    rintro e w7 ⟨rfl, ha, hc⟩
    rw [hits_shut]
    rw [after_one, tells_shut] at ha
    have A5 := hid ha
    have C5 := hid (C4.out.trans hc (fun i hi e => by have := B1.out i e; omega))
    clear ha hc C4 A4
    go_wp2_with fail
    refine (Len_t A5.out 0).mono ?_
    rintro e w4 ⟨he, rfl⟩
    obtain rfl : e = .returned (I bf.length) := he
    go_wp2_with fail
    refine (Missed_t A5.out 0).mono ?_
    rintro e w4 ⟨he, rfl⟩
    obtain rfl : e = .returned (I M) := he
    go_wp2_with fail
    go_loopw [12] (fun j wr => ∃ m : Nat, j = .int .i64 m ∧ m ≤ bf.length ∧ HubAt wr h v l ⟨[⟨false, bf.drop m, M⟩], R⟩ ∧ Chg (fun _ => False) w wr) (fun j _ => bf.length - (intOf j).toNat)
    case atStart => exact ⟨0, rfl, by omega, A5.out, C5.out⟩
    case round =>
      obtain ⟨m, rfl, hm, ha, hc⟩ := hrel
      have A6 := hid ha
      have C6 := hid hc
      clear ha hc C5 A5
      by_cases hlt : m < bf.length
      · have hlu : m < us.length := by omega
        have HD := hid (List.drop_eq_getElem_cons hlt)
        have hx := HGet.out m hlt
        rw [List.getElem?_eq_getElem hlt, List.getElem?_eq_getElem hlu, Option.some.injEq] at hx
        rw [HD.out, hx] at A6
        have HX := hid hx
        clear hx
        go_wp2_with fail
        refine (Take_t A6.out 0).mono ?_
        rintro e w8 ⟨he, ha, hc⟩
        obtain rfl : e = .returned (.tuple #[I us[m], .bool true]) := he
        have A7 : Hid (HubAt w8 h v l ⟨[⟨false, bf.drop (m + 1), M⟩], R⟩) := ha
        have C7 := hid (C6.out.trans hc (fun i hi e => by have := B1.out i e; omega))
        clear ha hc
        obtain ⟨a', c', hsl, z1, z2, hcell⟩ := R1.out.new C7.out
        have hlm : (us.map I).length = us.length := List.length_map _
        rw [hlm] at hsl
        injection hsl with e1 e2 e3
        subst e1 e3
        obtain ⟨g, off, hg, hv⟩ := hcell m (I us[m]) (by rw [List.getElem?_map, List.getElem?_eq_getElem hlu]; rfl)
        subst hg
        have HE := hid e2
        have hmb := hlu
        rw [← e2] at hmb
        clear hcell hlm z1 z2 e2
        clear HX A6 HD
        generalize us[m] = x at *
        go_wp2
        exact ⟨⟨m + 1, by go_num, by omega, A7.out, C7.out⟩, by simp [intOf]; omega⟩
      · obtain rfl : m = bf.length := by omega
        have hT := hN
        rw [← K.out.1] at hT
        have hTi := congrArg (fun x : Nat => (x : Int)) hT
        push_cast at hTi
        clear hT hN
        go_wp2_with fail
        refine (awake_t wr).mono ?_
        rintro e w9 ⟨rfl, hc⟩
        have C9 := hid (C6.out.trans hc (fun _ _ e => e))
        clear hc
        go_wp2
        go_ret
        exact ⟨rfl, C9.out.below (fun _ e => e.elim) (Nat.le_refl _)⟩
end Go.Proofs.Ytjlmbmamkhneiaa
