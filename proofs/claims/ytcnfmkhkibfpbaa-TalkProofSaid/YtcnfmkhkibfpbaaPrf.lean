/- The walk of the program's Proof. -/
import Derived.Test.YtcnfmkhkibfpbaaRPrf
import Derived.Test.YtcnfmkhkibfpbaaTag
import Derived.Test.YtcnfmkhkibfpbaaTagP
import Derived.Deep.RegionHeld3
namespace Go.Proofs.Ytcnfmkhkibfpbaa
open Go Go.RowKit
theorem be6_mod (x : Nat) : be 6 x = be 6 (x % 281474976710656) := by
  unfold be
  apply List.map_congr_left
  intro j hj
  have hj' : j < 6 := by simpa using hj
  have e : x / 256 ^ (6 - 1 - j) % 256 = x % 281474976710656 / 256 ^ (6 - 1 - j) % 256 := by
    rcases (by omega : j = 0 ∨ j = 1 ∨ j = 2 ∨ j = 3 ∨ j = 4 ∨ j = 5) with rfl | rfl | rfl | rfl | rfl | rfl <;> simp <;> omega
  rw [e]
theorem be1_int (k : Int) : be 1 (k % 18446744073709551616).toNat = [UInt8.ofNat (k % 256).toNat] := by
  have e : (k % 18446744073709551616).toNat % 256 = (k % 256).toNat := by omega
  simp [be, e]
theorem bits2_t (w : World) (base p : Nat) (v : Value) (bs : List UInt8) (h : OutAt w base p v bs (8 * bs.length)) (hbase : base ≤ w.heap.size) (u x : Nat) (hu : u < 18446744073709551616) (hx : x < 18446744073709551616) (hroom : bs.length + 2 ≤ 65536) :
    Calls Try.prog 37 #[.pointer (some ⟨p, 0, none⟩), .int .i64 8, .slice (some ⟨w.heap.size, 0, none⟩) 2 2] (w.alloc (.cells #[.int .u64 u, .int .u64 x] 32)) fun e w' => e = .returned (.int .i64 0) ∧ ∃ v', OutAt w' base p v' (bs ++ (be 1 u ++ be 1 x)) (8 * (bs ++ (be 1 u ++ be 1 x)).length) ∧ Kept (w.alloc (.cells #[.int .u64 u, .int .u64 x] 32)) p v w' v' := by
  have hrd : RdV (w.alloc (.cells #[.int .u64 u, .int .u64 x] 32)) (.slice (some ⟨w.heap.size, 0, none⟩) ([u, x].map N64).length ([u, x].map N64).length) ([u, x].map N64) :=
    ⟨_, _, rfl, fun j y hy => ⟨w.heap.size, 0, rfl, by rw [Nat.zero_add, cell_of_row _ _ _ _ _ _ (heap_alloc_new w _)]; simpa using hy⟩⟩
  refine (bits_t _ base p v bs (h.alloc _) (by simp; omega) 1 (by omega) (by omega) _ [u, x] hrd ?_ (by intro y hy; simp at hy; omega) (by simpa using hroom) (by simp)).mono ?_
  · intro g hg
    have hg' : w.heap.size = g := by simpa [Value.ownBlock] using hg
    have := h.lt
    rintro (e | e)
    · omega
    · have := this.2 g e; omega
  · rintro e w' ⟨rfl, v', ho, hc, hvb⟩
    have e : bes 1 [u, x] = be 1 u ++ be 1 x := by simp [bes]
    rw [e] at ho
    exact ⟨rfl, v', ho, hc, hvb⟩
theorem Rd.chgF {w w' : World} {v : Value} {bs : List UInt8} (h : Rd w v bs) (c : Chg (fun _ => False) w w') : Rd w' v bs := h.move fun g _ hg => c.block g hg (fun e => e)
theorem Rd.same {w w' : World} {v : Value} {bs : List UInt8} (h : Rd w v bs) (e : w'.heap = w.heap) : Rd w' v bs := h.move fun g _ _ => by rw [e]
theorem RdS.drew {w : World} {v : Value} {bss : List (List UInt8)} (h : RdS w v bss) : RdS w.drew v bss := h.move fun _ _ => rfl
def strCap (w : World) (s : ByteArray) : Nat := grownCap w s.size 0 5
def strObj (w : World) (s : ByteArray) : Obj := .cells (bytesRow s (grownCap w s.size 0 5)) 5 ((bytesRow s (grownCap w s.size 0 5)).size, (bytesRow s (grownCap w s.size 0 5)).size + 1)
theorem conv_str (w : World) (s : ByteArray) : (convert 9 22 (.string s)).run Try.prog w = .ok (.slice (some ⟨w.heap.size, 0, none⟩) s.size (strCap w s)) (w.drew.alloc (strObj w s)) := run_bytes_of_string (P := Try.prog) w 9 22 5 s U9 T22.under U5
theorem conv_rd (w : World) (s : ByteArray) (hs : s.size ≤ 1048576) : Rd (w.drew.alloc (strObj w s)) (.slice (some ⟨w.heap.size, 0, none⟩) s.size (strCap w s)) s.data.toList := by
  obtain ⟨cap, o, h1, h2⟩ := str_bytes w s hs
  rw [conv_str] at h1
  injection h1 with e1 e2
  rw [← e1, ← e2] at h2
  exact h2
theorem proofB_eq (kind : Int) (s : ByteArray) (nonce mac ip : Nat) (hd : List UInt8) (h : [UInt8.ofNat (kind % 256).toNat] ++ [UInt8.ofNat ((s.size : Int) % 256).toNat] = hd) :
    proofB kind s nonce mac ip = hd ++ (s.data.toList ++ (be 8 nonce ++ (be 6 mac ++ be 4 ip))) := by
  rw [← h, proofB, ← be6_mod]; simp
set_option maxRecDepth 100000 in
set_option maxHeartbeats 4000000 in
theorem proof_t (x y : BitVec 64) (kind : Int) (s : ByteArray) (hs : s.size ≤ 65536) (nonce mac ip : Nat) (hn : nonce < 18446744073709551616) (hm : mac < 18446744073709551616) (hi : ip < 4294967296) (w : World) :
    Calls Try.prog 26 #[.agg #[U64 x, U64 y], .int .i64 kind, .string s, .int .u64 nonce, .int .u64 mac, .int .u32 ip] w fun e w' => e = .returned (U64 (tagB x y (proofB kind s nonce mac ip))) ∧ Chg (fun _ => False) w w' := by
  go_enter Try.func26, Try.ntmps26
  go_wp2_with fail
  have hb := heap_alloc_new w (.cells #[U64 x, U64 y] 55)
  have hz := World.size_alloc w (.cells #[U64 x, U64 y] 55)
  have hc0 := (Chg.refl (fun _ => False) w).alloc (.cells #[U64 x, U64 y] 55)
  generalize w.alloc (.cells #[U64 x, U64 y] 55) = w0 at *
  have HB0 := hid hb
  have HC0 := hid hc0
  generalize hk : w.heap.size = k at *
  have HK := hid hk
  clear hb hc0 hk
  refine (new_t w0 w0.heap.size (Nat.le_refl _)).mono ?_
  rintro e w1 ⟨rfl, ho, hc⟩
  have H1 := hid ho
  have HL1 := hid hc.size
  have HC1 := hid (HC0.out.trans hc (fun _ _ e => e))
  have HB1 := hid ((hc.block k (by omega) (fun e => e)).trans HB0.out)
  clear ho hc
  have HZ := hid hz
  rw [hz] at H1 HL1
  have hk1 : IntKind.u64.wrap kind = ((kind % 18446744073709551616).toNat : Int) := by simp [IntKind.wrap, IntKind.bits, IntKind.signed]; omega
  have hkr : (kind % 18446744073709551616).toNat < 18446744073709551616 := by omega
  have E1 := hid (be1_int kind)
  have E2 := hid (show be 1 s.size = [UInt8.ofNat ((s.size : Int) % 256).toNat] by have := be1_int (s.size : Int); rw [← this]; congr 1; omega)
  generalize (kind % 18446744073709551616).toNat = kn at *
  go_wp2_with fail
  refine (bits2_t w1 (k + 1) (k + 1) (.slice none 0 0) [] H1.out HL1.out kn s.size (by omega) (by omega) (by simp)).mono ?_
  rintro e w2 ⟨rfl, v2, ho, hk⟩
  rw [List.nil_append] at ho
  have H2 := hid ho
  have HL2 := hid (show k + 1 ≤ w2.heap.size from Nat.le_trans (by have := HL1.out; simp; omega) hk.1.size)
  have HE2 := hid (kept_below ((Below.refl (k + 1) w1).alloc HL1.out _) (H1.out.alloc _) hk)
  have HB2 := hid ((HE2.out.block k (by omega)).trans HB1.out)
  have HC2 := hid (HC1.out.trans (T := fun i => k + 1 ≤ i) ⟨HE2.out.os, HE2.out.tape, HE2.out.output, HE2.out.size, fun i _ hn => HE2.out.block i (by omega)⟩ (fun i hi e => by have := HK.out; omega))
  clear ho hk
  go_wp2_with fail
  refine (done_t w2 (k + 1) (k + 1) v2 _ _ H2.out (by rw [E1.out, E2.out]; simp)).mono ?_
  rintro e w3 ⟨r3, rfl, ho, hc⟩
  have R3 := hid (Rd.of_owns ho)
  rw [show (be 1 kn ++ be 1 s.size).length = 2 by simp [be_len]] at ho
  obtain ⟨ra3, rc3, rfl⟩ := own_shape ho
  have HC3 := hid (HC2.out.trans hc (fun _ _ e => e))
  have HB3 := hid ((hc.block k (by have := HL2.out; omega) (fun e => e)).trans HB2.out)
  have HK3 := hid (show k < w3.heap.size from Nat.lt_of_lt_of_le (by have := HL2.out; omega) hc.size)
  clear ho hc
  rw [E1.out, E2.out] at R3
  obtain ⟨hd, hhd⟩ : ∃ hd, [UInt8.ofNat (kind % 256).toNat] ++ [UInt8.ofNat ((s.size : Int) % 256).toNat] = hd := ⟨_, rfl⟩
  rw [hhd] at R3
  have HHD := hid hhd
  have PB := hid (proofB_eq kind s nonce mac ip hd hhd)
  clear hhd
  go_wp2_with fail
  refine (new_t w3 w3.heap.size (Nat.le_refl _)).mono ?_
  rintro e w4 ⟨rfl, ho, hc⟩
  have H4 := hid ho
  have HL4 := hid hc.size
  have HE4 := hid (show Below w3.heap.size w3 w4 from ⟨hc.os, hc.tape, hc.output, hc.size, fun i hi => hc.block i hi (fun e => e)⟩)
  clear ho hc
  generalize hb2 : w3.heap.size = b2 at *
  have HB2' := hid hb2
  clear hb2
  go_wp2_with fail
  refine (bits1_t w4 b2 b2 (.slice none 0 0) [] H4.out HL4.out 8 (by omega) (by omega) nonce hn (by simp)).mono ?_
  rintro e w5 ⟨rfl, v5, ho, hk⟩
  rw [List.nil_append] at ho
  have H5 := hid ho
  have HL5 := hid (show b2 ≤ w5.heap.size from Nat.le_trans (by have := HL4.out; simp; omega) hk.1.size)
  have HE5 := hid (kept_below (HE4.out.alloc HL4.out _) (H4.out.alloc _) hk)
  clear ho hk
  go_wp2_with fail
  refine (bits1_t w5 b2 b2 v5 (be 8 nonce) H5.out HL5.out 6 (by omega) (by omega) mac hm (by rw [be_len]; omega)).mono ?_
  rintro e w6 ⟨rfl, v6, ho, hk⟩
  have H6 := hid ho
  have HL6 := hid (show b2 ≤ w6.heap.size from Nat.le_trans (by have := HL5.out; simp; omega) hk.1.size)
  have HE6 := hid (kept_below (HE5.out.alloc HL5.out _) (H5.out.alloc _) hk)
  clear ho hk
  go_wp2_with fail
  refine (bits1_t w6 b2 b2 v6 (be 8 nonce ++ be 6 mac) H6.out HL6.out 4 (by omega) (by omega) ip (by omega) (by rw [List.length_append, be_len, be_len]; omega)).mono ?_
  rintro e w7 ⟨rfl, v7, ho, hk⟩
  have H7 := hid ho
  have HL7 := hid (show b2 ≤ w7.heap.size from Nat.le_trans (by have := HL6.out; simp; omega) hk.1.size)
  have HE7 := hid (kept_below (HE6.out.alloc HL6.out _) (H6.out.alloc _) hk)
  clear ho hk
  go_wp2_with fail
  have hb7 := (HE7.out.block k HK3.out).trans HB3.out
  obtain ⟨c0, c1, cf⟩ := cells2 hb7
  have CH0 := hid c0
  have CH1 := hid c1
  have RH := hid (show Rd w7 (.slice ra3 2 rc3) hd from R3.out.below (by rw [HB2'.out]; exact HE7.out))
  have hcv := fun w' => conv_str w' s
  have LB := hid (show k < w7.heap.size from Nat.lt_of_lt_of_le HK3.out HL7.out)
  have LEN := hid (show (be 8 nonce ++ be 6 mac ++ be 4 ip).length ≤ 1048576 by simp [be_len])
  have LEN18 := hid (show (be 8 nonce ++ be 6 mac ++ be 4 ip).length = 18 by simp [be_len])
  have LEN2 := hid (show [hd, s.data.toList, be 8 nonce ++ be 6 mac ++ be 4 ip].flatten.length ≤ 1048576 by rw [← HHD.out]; simp [be_len, ByteArray.size_data]; have : s.data.size = s.size := rfl; omega)
  have CA := hid (show Chg (fun _ => False) w7 (w7.alloc (strObj w7.drew s)).drew.drew from ((Chg.refl _ w7).alloc _).drew.drew)
  have RHA := hid (RH.out.chgF CA.out)
  have RTA := hid (show Rd (w7.alloc (strObj w7.drew s)).drew.drew (.slice (some ⟨w7.heap.size, 0, none⟩) s.size (strCap w7.drew s)) s.data.toList from (conv_rd w7.drew s (by omega)).same rfl)
  refine wp_region_held_drew (S := (fun w' => w'.cell? ⟨k, 0, none⟩ = some (U64 x) ∧ w'.cell? ⟨k, 1, none⟩ = some (U64 y))) (by kernel_rfl) ⟨CH0.out, CH1.out⟩ (fun hHeld => ?_)
  refine wpAnyH_take (i := 0) (v := .pointer (some ⟨k, 0, none⟩)) rfl (by kernel_rfl) (by kernel_rfl) (by kernel_rfl) (fun _ _ _ h => h) (Or.inl ⟨by rfl, ?_⟩) (by assumption) ?_
  · (intro w hSw; obtain ⟨hs0, hs1⟩ := hSw; go_simp)
  try simp only [Act.put, List.setIfInBounds_toArray, List.set_cons_zero, List.set_cons_succ]
  refine wpAnyH_take (i := 1) (v := U64 x) rfl (by kernel_rfl) (by kernel_rfl) (by kernel_rfl) (fun _ _ _ h => h) (Or.inl ⟨by rfl, ?_⟩) (by assumption) ?_
  · (intro w hSw; obtain ⟨hs0, hs1⟩ := hSw; go_simp)
  try simp only [Act.put, List.setIfInBounds_toArray, List.set_cons_zero, List.set_cons_succ]
  refine wpAnyH_take (i := 2) (v := .pointer (some ⟨k, 1, none⟩)) rfl (by kernel_rfl) (by kernel_rfl) (by kernel_rfl) (fun _ _ _ h => h) (Or.inl ⟨by rfl, ?_⟩) (by assumption) ?_
  · (intro w hSw; obtain ⟨hs0, hs1⟩ := hSw; go_simp)
  try simp only [Act.put, List.setIfInBounds_toArray, List.set_cons_zero, List.set_cons_succ]
  refine wpAnyH_take (i := 3) (v := U64 y) rfl (by kernel_rfl) (by kernel_rfl) (by kernel_rfl) (fun _ _ _ h => h) (Or.inl ⟨by rfl, ?_⟩) (by assumption) ?_
  · (intro w hSw; obtain ⟨hs0, hs1⟩ := hSw; go_simp)
  try simp only [Act.put, List.setIfInBounds_toArray, List.set_cons_zero, List.set_cons_succ]
  refine wpAnyH_take (i := 4) (v := .slice ra3 2 rc3) rfl (by kernel_rfl) (by kernel_rfl) (by kernel_rfl) (fun _ _ _ h => h) (Or.inl ⟨by rfl, ?_⟩) (by assumption) ?_
  · (intro w hSw; obtain ⟨hs0, hs1⟩ := hSw; go_simp)
  try simp only [Act.put, List.setIfInBounds_toArray, List.set_cons_zero, List.set_cons_succ]
  refine wpAnyH_take (i := 5) (v := .string s) rfl (by kernel_rfl) (by kernel_rfl) (by kernel_rfl) (fun _ _ _ h => h) (Or.inl ⟨by rfl, ?_⟩) (by assumption) ?_
  · (intro w hSw; obtain ⟨hs0, hs1⟩ := hSw; go_simp)
  try simp only [Act.put, List.setIfInBounds_toArray, List.set_cons_zero, List.set_cons_succ]
  refine wpAnyH_take (i := 7) (v := .pointer (some ⟨b2, 0, none⟩)) rfl (by kernel_rfl) (by kernel_rfl) (by kernel_rfl) (fun _ _ _ h => h) (Or.inl ⟨by rfl, ?_⟩) (by assumption) ?_
  · (intro w hSw; obtain ⟨hs0, hs1⟩ := hSw; go_simp)
  try simp only [Act.put, List.setIfInBounds_toArray, List.set_cons_zero, List.set_cons_succ]
  refine wpAnyH_ready (rs := [6, 8]) (by kernel_rfl) (by simp) ?_
  refine AllReadyH.cons rfl (fun K hK => ?_) (AllReadyH.cons rfl (fun K hK => ?_) AllReadyH.nil)
  · skip
    go_simp
    refine hK.out _ _ (by (try dsimp only); exact ⟨CA.out.cell CH0.out (fun e => e), CA.out.cell CH1.out (fun e => e)⟩) (fun hHeld2 => ?_)
    clear hK K hHeld
    have hHeld := hHeld2
    clear hHeld2
    try simp only [Act.put, List.setIfInBounds_toArray, List.set_cons_zero, List.set_cons_succ]
    refine wpAnyH_ready (rs := [8]) (by kernel_rfl) (by simp) ?_
    refine AllReadyH.cons rfl (fun K hK => ?_) AllReadyH.nil
    go_simp
    refine (done_t _ b2 b2 v7 _ _ (H7.out.alloc _).drew.drew LEN.out).mono ?_
    rintro e w8 ⟨r8, rfl, ho8, hc8⟩
    have R8 := hid (Rd.of_owns ho8)
    rw [LEN18.out] at ho8
    obtain ⟨ra8, rc8, rfl⟩ := own_shape ho8
    have C8 := hid (CA.out.trans hc8 (fun _ _ e => e))
    have RH8 := hid (RH.out.chgF C8.out)
    have RT8 := hid (RTA.out.chgF hc8)
    clear ho8 hc8
    go_wp2_with fail
    refine hK.out _ _ (by (try dsimp only); exact ⟨C8.out.cell CH0.out (fun e => e), C8.out.cell CH1.out (fun e => e)⟩) (fun hHeld2 => ?_)
    clear hK K hHeld
    have hHeld := hHeld2
    clear hHeld2
    try simp only [Act.put, List.setIfInBounds_toArray, List.set_cons_zero, List.set_cons_succ]
    refine wpAnyH_ready (rs := [9]) (by kernel_rfl) (by simp) ?_
    refine AllReadyH.cons rfl (fun K hK => ?_) AllReadyH.nil
    go_simp
    refine hK.out _ _ (by (try dsimp only); exact ⟨(C8.out.alloc _).cell CH0.out (fun e => e), (C8.out.alloc _).cell CH1.out (fun e => e)⟩) (fun hHeld2 => ?_)
    clear hK K hHeld
    have hHeld := hHeld2
    clear hHeld2
    try simp only [Act.put, List.setIfInBounds_toArray, List.set_cons_zero, List.set_cons_succ]
    refine wpAnyH_ready (rs := [10]) (by kernel_rfl) (by simp) ?_
    refine AllReadyH.cons rfl (fun K hK => ?_) AllReadyH.nil
    go_simp
    have ht := rdS_three 22 RH8.out RT8.out R8.out
    have hc := tag_t x y _ _ _ ht LEN2.out
    clear ht
    refine hc.mono ?_
    clear hc
    rintro e w9 ⟨rfl, hb9⟩
    have C9 := hid (chg_below hb9)
    have CC := hid ((C8.out.alloc _).trans C9.out (fun _ _ e => e))
    clear hb9
    go_wp2_with fail
    refine hK.out _ _ (by (try dsimp only); exact ⟨CC.out.cell CH0.out (fun e => e), CC.out.cell CH1.out (fun e => e)⟩) (fun hHeld2 => ?_)
    clear hK K hHeld
    have hHeld := hHeld2
    clear hHeld2
    try simp only [Act.put, List.setIfInBounds_toArray, List.set_cons_zero, List.set_cons_succ]
    refine wpAnyH_ready (rs := [11]) (by kernel_rfl) (by simp) ?_
    refine AllReadyH.cons rfl (fun K hK => ?_) AllReadyH.nil
    go_simp
    refine hK.out _ _ (by (try dsimp only); exact ⟨CC.out.cell CH0.out (fun e => e), CC.out.cell CH1.out (fun e => e)⟩) (fun hHeld2 => ?_)
    clear hK K hHeld
    have hHeld := hHeld2
    clear hHeld2
    try simp only [Act.put, List.setIfInBounds_toArray, List.set_cons_zero, List.set_cons_succ]
    refine wpAnyH_done (by kernel_rfl) ?_ _
    go_wp2_with fail
    go_ret
    rw [PB.out]
    have H37 := chg_below (show Below w3.heap.size w3 _ by rw [HB2'.out]; exact HE7.out)
    exact ⟨rfl, (HC3.out.trans H37 (fun _ _ e => e)).trans CC.out (fun _ _ e => e)⟩
  · skip
    go_simp
    refine (done_t _ b2 b2 v7 _ _ H7.out.drew LEN.out).mono ?_
    rintro e w8 ⟨r8, rfl, ho8, hc8⟩
    have R8 := hid (Rd.of_owns ho8)
    rw [LEN18.out] at ho8
    obtain ⟨ra8, rc8, rfl⟩ := own_shape ho8
    have C8 := hid (show Chg (fun _ => False) w7 w8 from (Chg.refl _ w7).drew.trans hc8 (fun _ _ e => e))
    have RH8 := hid (RH.out.chgF C8.out)
    clear ho8 hc8
    go_wp2_with fail
    refine hK.out _ _ (by (try dsimp only); exact ⟨C8.out.cell CH0.out (fun e => e), C8.out.cell CH1.out (fun e => e)⟩) (fun hHeld2 => ?_)
    clear hK K hHeld
    have hHeld := hHeld2
    clear hHeld2
    try simp only [Act.put, List.setIfInBounds_toArray, List.set_cons_zero, List.set_cons_succ]
    refine wpAnyH_ready (rs := [6]) (by kernel_rfl) (by simp) ?_
    refine AllReadyH.cons rfl (fun K hK => ?_) AllReadyH.nil
    go_simp
    refine hK.out _ _ (by (try dsimp only); exact ⟨(C8.out.alloc _).cell CH0.out (fun e => e), (C8.out.alloc _).cell CH1.out (fun e => e)⟩) (fun hHeld2 => ?_)
    clear hK K hHeld
    have hHeld := hHeld2
    clear hHeld2
    try simp only [Act.put, List.setIfInBounds_toArray, List.set_cons_zero, List.set_cons_succ]
    refine wpAnyH_ready (rs := [9]) (by kernel_rfl) (by simp) ?_
    refine AllReadyH.cons rfl (fun K hK => ?_) AllReadyH.nil
    go_simp
    refine hK.out _ _ (by (try dsimp only); exact ⟨((C8.out.alloc _).alloc _).cell CH0.out (fun e => e), ((C8.out.alloc _).alloc _).cell CH1.out (fun e => e)⟩) (fun hHeld2 => ?_)
    clear hK K hHeld
    have hHeld := hHeld2
    clear hHeld2
    try simp only [Act.put, List.setIfInBounds_toArray, List.set_cons_zero, List.set_cons_succ]
    refine wpAnyH_ready (rs := [10]) (by kernel_rfl) (by simp) ?_
    refine AllReadyH.cons rfl (fun K hK => ?_) AllReadyH.nil
    go_simp
    have CW := hid (show Chg (fun _ => False) w8 (w8.alloc (strObj w8 s)) from (Chg.refl _ w8).alloc _)
    have ht0 := rdS_three 22 (RH8.out.chgF CW.out) ((conv_rd w8 s (by omega)).same (w' := w8.alloc (strObj w8 s)) rfl) (R8.out.chgF CW.out)
    rw [World.size_alloc] at ht0
    have ht1 := ht0.drew
    clear ht0
    have hc := tag_t x y _ _ _ ht1 LEN2.out
    clear ht1
    refine hc.mono ?_
    clear hc
    rintro e w9 ⟨rfl, hb9⟩
    have C9 := hid (chg_below hb9)
    have CC := hid ((((C8.out.trans CW.out (fun _ _ e => e)).alloc _).drew).trans C9.out (fun _ _ e => e))
    clear hb9
    go_wp2_with fail
    refine hK.out _ _ (by (try dsimp only); exact ⟨CC.out.cell CH0.out (fun e => e), CC.out.cell CH1.out (fun e => e)⟩) (fun hHeld2 => ?_)
    clear hK K hHeld
    have hHeld := hHeld2
    clear hHeld2
    try simp only [Act.put, List.setIfInBounds_toArray, List.set_cons_zero, List.set_cons_succ]
    refine wpAnyH_ready (rs := [11]) (by kernel_rfl) (by simp) ?_
    refine AllReadyH.cons rfl (fun K hK => ?_) AllReadyH.nil
    go_simp
    refine hK.out _ _ (by (try dsimp only); exact ⟨CC.out.cell CH0.out (fun e => e), CC.out.cell CH1.out (fun e => e)⟩) (fun hHeld2 => ?_)
    clear hK K hHeld
    have hHeld := hHeld2
    clear hHeld2
    try simp only [Act.put, List.setIfInBounds_toArray, List.set_cons_zero, List.set_cons_succ]
    refine wpAnyH_done (by kernel_rfl) ?_ _
    go_wp2_with fail
    go_ret
    rw [PB.out]
    have H37 := chg_below (show Below w3.heap.size w3 _ by rw [HB2'.out]; exact HE7.out)
    exact ⟨rfl, (HC3.out.trans H37 (fun _ _ e => e)).trans CC.out (fun _ _ e => e)⟩
end Go.Proofs.Ytcnfmkhkibfpbaa
