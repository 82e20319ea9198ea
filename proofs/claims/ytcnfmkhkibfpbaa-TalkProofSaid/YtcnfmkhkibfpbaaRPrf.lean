/- The walk of the document's Proof. -/
import Derived.Test.YtcnfmkhkibfpbaaNum
namespace Go.Proofs.Ytcnfmkhkibfpbaa
open Go Go.RowKit
theorem own_lit (w : World) (bs : List UInt8) (h : bs.length ≤ 1048576) : (w.alloc (.cells (bs.map B).toArray 5)).ownsRow w.heap.size 5 1 (.slice (some ⟨w.heap.size, 0, none⟩) bs.length bs.length) bs.length (bs.map B) := by
  have := World.ownsRow_lit (base := w.heap.size) (e := 5) (size := 1) w (bs.map B).toArray bs.length (Nat.le_refl _) (by unfold maxLen; omega) (by simp)
  simpa using this
theorem wpl_append_str {ops : Array Oper} {rest : List Oper} {o : Oper} {a : Act} {w : World} {Q : Exit → Act → World → Prop} (hgd : o.guard = none) (s x : Operand)
    (ho : o.op = .call { callee := .builtin .append, args := #[s, x], argTypes := #[22, 9] }) (base : Nat) (v : Value) (l : List UInt8) (hs : a.eval s = v)
    (hown : w.ownsRow base 5 1 v l.length (l.map B)) (st : ByteArray) (hst : a.eval x = .string st) (hlen : l.length + st.size ≤ 1099511627776) (hbase : base ≤ w.heap.size)
    (h : ∀ v' w', w'.ownsRow base 5 1 v' (l ++ st.data.toList).length ((l ++ st.data.toList).map B) → w.grownBy w' v.ownBlock → wpList Try.prog ops Q rest (a.put o.dst v') w') : wpList Try.prog ops Q (o :: rest) a w := by
  obtain ⟨i, hi, hiz, his, hib⟩ := T22.info
  obtain ⟨v', w', hr, hown', hg, _⟩ := Lib.run_append_own_string (P := Try.prog) w base 22 9 o.type 5 i T22.under U9 hi hiz his hib v l.length (l.map B) hown st (by unfold maxLen; omega) (by omega) hbase
  refine Lib.wpList_append_run w hgd s x 22 9 ho v (.string st) hs hst v' w' hr (h v' w' ?_ hg)
  have e : (l ++ st.data.toList).map B = l.map B ++ Lib.strCells st := by rw [List.map_append]; rfl
  have e2 : (l ++ st.data.toList).length = l.length + st.size := by rw [List.length_append]; rfl
  rw [e, e2]; exact hown'
theorem u8_wrap (n : Int) : Value.int .u8 (IntKind.u8.wrap n) = B (UInt8.ofNat (n % 256).toNat) := by
  have h1 : IntKind.u8.wrap n = n % 256 := by simp [IntKind.wrap, IntKind.bits, IntKind.signed]
  have h2 : (n % 256).toNat < 256 := by omega
  show Value.int .u8 _ = Value.int .u8 _
  rw [h1, UInt8.toNat_ofNat_of_lt' h2]
  congr 1
  omega
theorem own_chgF {w w' : World} {base : Nat} {e : TypeId} {v : Value} {n : Nat} {xs : List Value} (h : w.ownsRow base e 1 v n xs) (c : Chg (fun _ => False) w w') : w'.ownsRow base e 1 v n xs := by
  refine ⟨h.1, ?_⟩
  rcases h.2 with hn | ⟨g, cap, cur, hv, hg, hh, r⟩
  · exact .inl hn
  · exact .inr ⟨g, cap, cur, hv, hg, (c.block g (Array.getElem?_eq_some_iff.1 hh).1 (fun e => e)).trans hh, r⟩
theorem chg_own {w0 w w' : World} {base : Nat} {e : TypeId} {v : Value} {n : Nat} {xs : List Value} (c : Chg (fun _ => False) w0 w) (h : w.ownsRow base e 1 v n xs) (hg : w.grownBy w' v.ownBlock) (hb : w0.heap.size ≤ base) : Chg (fun _ => False) w0 w' :=
  c.grown hg (fun k hk hlt => by
    rcases h.2 with ⟨hn, _⟩ | ⟨g', cap', cur, hv, hg', hh, _⟩
    · rw [hn] at hk; cases hk
    · rw [hv] at hk
      have : g' = k := by simpa [Value.ownBlock] using hk
      omega)
def proofB (kind : Int) (s : ByteArray) (nonce mac ip : Nat) : List UInt8 :=
  [UInt8.ofNat (kind % 256).toNat, UInt8.ofNat ((s.size : Int) % 256).toNat] ++ s.data.toList ++ be 8 nonce ++ be 6 (mac % 281474976710656) ++ be 4 ip
set_option maxHeartbeats 4000000 in
theorem rproof_t (x y : BitVec 64) (kind : Int) (s : ByteArray) (hs : s.size ≤ 65536) (nonce mac ip : Nat) (hn : nonce < 18446744073709551616) (hm : mac < 18446744073709551616) (hi : ip < 4294967296) (w : World) :
    Calls Try.prog 27 #[U64 x, U64 y, .int .i64 kind, .string s, .int .u64 nonce, .int .u64 mac, .int .u32 ip] w fun e w' => e = .returned (U64 (rtagB x y (proofB kind s nonce mac ip))) ∧ Chg (fun _ => False) w w' := by
  have hk1 := u8_wrap kind
  have hk2 := u8_wrap s.size
  obtain ⟨kb, hkb⟩ : ∃ kb, UInt8.ofNat (kind % 256).toNat = kb := ⟨_, rfl⟩
  obtain ⟨lb, hlb⟩ : ∃ lb, UInt8.ofNat ((s.size : Int) % 256).toNat = lb := ⟨_, rfl⟩
  have HP := hid (show proofB kind s nonce mac ip = [kb, lb] ++ s.data.toList ++ be 8 nonce ++ be 6 (mac % 281474976710656) ++ be 4 ip by rw [← hkb, ← hlb]; rfl)
  rw [hkb] at hk1
  rw [hlb] at hk2
  clear hkb hlb
  generalize proofB kind s nonce mac ip = pb at *
  go_enter Try.func27, Try.ntmps27
  go_wp2_with (at_builtin; refine wpl_append_str rfl _ _ rfl w.heap.size _ [kb, lb] rfl (own_lit w [kb, lb] (by simp)) s rfl (by simp; omega) (by simp) ?c1)
  case c1 =>
    intro v1 w1 hown hg
    have h1 := hid (own_lit w [kb, lb] (by simp))
    have C1 := hid (chg_own ((Chg.refl _ w).alloc _) h1.out hg (Nat.le_refl _))
    have O1 := hid (show w1.ownsRow w.heap.size 5 1 v1 ([kb, lb] ++ s.data.toList).length (([kb, lb] ++ s.data.toList).map B) from hown)
    clear hown hg h1
    have hls : ([kb, lb] ++ s.data.toList).length = 2 + s.size := by rw [List.length_append]; rfl
    have HLS := hid hls
    clear hls
    generalize [kb, lb] ++ s.data.toList = l1 at *
    go_wp2_with fail
    refine (num_t 8 nonce (by omega) hn w1).mono ?_
    rintro e w2 ⟨r2, rfl, ho, hc⟩
    have R2 := hid (Rd.of_owns (bs := be 8 nonce) (by rw [be_len]; exact ho))
    have C2 := hid (C1.out.trans hc (fun _ _ e => e))
    have O2 := hid (own_chgF O1.out hc)
    clear ho hc
    have hmm : (mac : Int).tmod 281474976710656 = ((mac % 281474976710656 : Nat) : Int) := by rw [Int.tmod_eq_emod_of_nonneg (by omega)]; omega
    have L1 := hid (show l1.length ≤ 70000 by have := HLS.out; omega)
    go_wp2_with (at_builtin; refine wpl_append_bytes rfl _ _ 22 rfl T22 w.heap.size _ l1 rfl O2.out _ rfl (be 8 nonce) R2.out ?p3 ?q3 ?s3)
    case p3 => rw [be_len]; have := L1.out; omega
    case q3 => exact C2.out.size
    case s3 =>
      intro v3 w3 hown hg
      have C3 := hid (chg_own C2.out O2.out hg (Nat.le_refl _))
      have O3 := hid (show w3.ownsRow w.heap.size 5 1 v3 (l1 ++ be 8 nonce).length ((l1 ++ be 8 nonce).map B) by rw [List.length_append, List.map_append]; exact hown)
      have L3 := hid (show (l1 ++ be 8 nonce).length ≤ 70008 by rw [List.length_append, be_len]; have := L1.out; omega)
      clear hown hg
      obtain ⟨l3, hl3⟩ : ∃ l3, l1 ++ be 8 nonce = l3 := ⟨_, rfl⟩
      rw [hl3] at O3 L3
      have E3 := hid hl3
      clear hl3
      go_wp2_with fail
      refine (num_t 6 (mac % 281474976710656) (by omega) (by omega) w3).mono ?_
      rintro e w4 ⟨r4, rfl, ho, hc⟩
      have R4 := hid (Rd.of_owns (bs := be 6 (mac % 281474976710656)) (by rw [be_len]; exact ho))
      have C4 := hid (C3.out.trans hc (fun _ _ e => e))
      have O4 := hid (own_chgF O3.out hc)
      clear ho hc
      go_wp2_with (at_builtin; refine wpl_append_bytes rfl _ _ 22 rfl T22 w.heap.size _ l3 rfl O4.out _ rfl (be 6 (mac % 281474976710656)) R4.out ?p5 ?q5 ?s5)
      case p5 => rw [be_len]; have := L3.out; omega
      case q5 => exact C4.out.size
      case s5 =>
        intro v5 w5 hown hg
        have C5 := hid (chg_own C4.out O4.out hg (Nat.le_refl _))
        have O5 := hid (show w5.ownsRow w.heap.size 5 1 v5 (l3 ++ be 6 (mac % 281474976710656)).length ((l3 ++ be 6 (mac % 281474976710656)).map B) by rw [List.length_append, List.map_append]; exact hown)
        have L5 := hid (show (l3 ++ be 6 (mac % 281474976710656)).length ≤ 70014 by rw [List.length_append, be_len]; have := L3.out; omega)
        clear hown hg
        obtain ⟨l5, hl5⟩ : ∃ l5, l3 ++ be 6 (mac % 281474976710656) = l5 := ⟨_, rfl⟩
        rw [hl5] at O5 L5
        have E5 := hid hl5
        clear hl5 hmm
        go_wp2_with fail
        refine (num_t 4 ip (by omega) (by omega) w5).mono ?_
        rintro e w6 ⟨r6, rfl, ho, hc⟩
        have R6 := hid (Rd.of_owns (bs := be 4 ip) (by rw [be_len]; exact ho))
        have C6 := hid (C5.out.trans hc (fun _ _ e => e))
        have O6 := hid (own_chgF O5.out hc)
        clear ho hc
        go_wp2_with (at_builtin; refine wpl_append_bytes rfl _ _ 22 rfl T22 w.heap.size _ l5 rfl O6.out _ rfl (be 4 ip) R6.out ?p7 ?q7 ?s7)
        case p7 => rw [be_len]; have := L5.out; omega
        case q7 => exact C6.out.size
        case s7 =>
          intro v7 w7 hown hg
          have C7 := hid (chg_own C6.out O6.out hg (Nat.le_refl _))
          have O7 := hid (show w7.ownsRow w.heap.size 5 1 v7 (l5 ++ be 4 ip).length ((l5 ++ be 4 ip).map B) by rw [List.length_append, List.map_append]; exact hown)
          have L7 := hid (show (l5 ++ be 4 ip).length ≤ 1048576 by rw [List.length_append, be_len]; have := L5.out; omega)
          clear hown hg
          have E7 := hid (show l5 ++ be 4 ip = pb by rw [HP.out, ← E5.out, ← E3.out])
          rw [E7.out] at O7 L7
          go_wp2_with fail
          refine (rtag_t x y v7 pb w7 (Rd.of_owns O7.out) L7.out).mono ?_
          rintro e w8 ⟨rfl, hb⟩
          have C8 := hid (C7.out.trans (chg_below hb) (fun _ _ e => e))
          clear hb
          go_wp2
          go_ret
          exact ⟨rfl, C8.out⟩
end Go.Proofs.Ytcnfmkhkibfpbaa
