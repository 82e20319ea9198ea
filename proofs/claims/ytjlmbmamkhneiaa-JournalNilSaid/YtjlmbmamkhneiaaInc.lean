/- The walk of In.Bytes. -/
import Derived.Test.YtjlmbmamkhneiaaInb
import Derived.Test.YtjlmbmamkhneiaaHub7
namespace Go.Proofs.Ytjlmbmamkhneiaa
open Go Go.RowKit
set_option maxRecDepth 100000
theorem InAt.chg {w w' : World} {q : Nat} {vb : Value} {bs : List UInt8} {a a' : Nat} (h : InAt w q vb bs a) (c : Chg (fun k => k = q) w w') (hc : w'.heap[q]? = some (.cells #[vb, .int .i64 (a' : Nat), .int .i64 0] 142 (0, 0))) : InAt w' q vb bs a' :=
  ⟨hc, h.rd.move fun g hg hl => c.block g hl (h.ne g hg), h.ne, h.few⟩
set_option maxHeartbeats 4000000 in
theorem inBytes_t (w : World) (q : Nat) (vb : Value) (bs : List UInt8) (j n : Nat) (h : InAt w q vb bs (8 * j)) (hn : j + n ≤ bs.length) :
    Calls Try.prog 89 #[.pointer (some ⟨q, 0, none⟩), .int .i64 n] w fun e w' => ∃ v, e = .returned v ∧ w'.ownsRow w.heap.size 5 1 v ((bs.drop j).take n).length (((bs.drop j).take n).map B) ∧ InAt w' q vb bs (8 * (j + n)) ∧ Chg (fun k => k = q) w w' := by
  obtain ⟨c0, c1, c2, cf⟩ := cells3 h.cells
  have hf := h.few
  have hq := lt_of_block h.cells
  have H := hid h
  obtain ⟨va, vc, hv⟩ := h.rd.shape
  rw [List.length_map] at hv
  have HV := hid hv
  rw [hv] at c0
  clear h c1 c2 hv
  have en : IntKind.i64.wrap ((bs.length : Int) + 1) = (bs.length : Int) + 1 := by rw [IntKind.wrap_i64]; omega
  have e1 : min (n : Int) ((bs.length : Int) + 1) = n := by omega
  have e2 : max (n : Int) (-1) = n := by omega
  have e3 : IntKind.i64.wrap (8 * (n : Int)) = ((8 * n : Nat) : Int) := by rw [IntKind.wrap_i64]; omega
  go_enter Try.func89, Try.ntmps89
  go_wp2_with fail
  refine (has_t w q vb bs (8 * j) (8 * n) H.out (by omega)).mono ?_
  rintro e w1 ⟨rfl, nd, rfl⟩
  have HC := hid (show Chg (fun k => k = q) w (w.drewN nd) from (Chg.refl _ w).drewN nd)
  have HI := hid (H.out.drewN nd)
  have hs1 : (w.drewN nd).heap.size = w.heap.size := rfl
  generalize w.drewN nd = w1 at *
  go_wp2_with fail
  go_loopw [5, 23] (fun v k wr => ∃ m : Nat, k = .int .i64 m ∧ m ≤ n ∧ wr.ownsRow w.heap.size 5 1 v ((bs.drop j).take m).length (((bs.drop j).take m).map B) ∧ InAt wr q vb bs (8 * (j + m)) ∧ Chg (fun k => k = q) w wr) (fun _ k _ => n - (intOf k).toNat)
  case atStart => exact ⟨0, rfl, by omega, ⟨rfl, .inl ⟨rfl, rfl⟩⟩, HI.out, HC.out⟩
  case round =>
    obtain ⟨W0, rfl⟩ : ∃ W0 : World, W0 = wr := ⟨_, rfl⟩
    obtain ⟨m, rfl, hm, hO, hI, hC⟩ := hrel
    have C1 := hid hC
    have I1 := hid hI
    have O1 := hid hO
    clear hI hC hO
    by_cases hlt : m < n
    · have hd : m < (bs.drop j).length := by simp; omega
      have hj : j + m < bs.length := by omega
      have HT := hid (take_snoc hd)
      have HB := hid (inV_byte bs (j + m) hj)
      have hl : ((bs.drop j).take m).length ≤ 1048576 := by simp; omega
      have hg : (bs.drop j)[m] = bs[j + m] := by simp
      rw [hg] at HT
      clear hg
      generalize bs[j + m] = u at *
      generalize (bs.drop j).take m = l at *
      have hu := u.toNat_lt
      have hm1 : IntKind.i64.wrap ((m : Int) + 1) = ((m + 1 : Nat) : Int) := by rw [IntKind.wrap_i64]; omega
      go_wp2_with fail
      refine (inBits_t W0 q vb bs (8 * (j + m)) 8 I1.out (by omega) (by omega) (by omega)).mono ?_
      rintro e w2 ⟨rfl, hi, hc⟩
      rw [HB.out]
      have C2 := hid (C1.out.trans hc fun _ _ e => e)
      have I2 := hid hi
      have O2 := hid (own_chg O1.out hc (fun k e => by omega))
      clear hi hc
      have ew : IntKind.u8.wrap ((u.toNat : Nat) : Int) = (u.toNat : Int) := by rw [IntKind.wrap_u8']; omega
      go_wp2_with (at_builtin; refine OutP.wpl_append_bytes rfl _ _ 22 rfl OutP.T22 w.heap.size _ l rfl (O2.out.alloc _) _ rfl [u] ?c0 ?c1 ?c2 ?c3)
      case c0 => exact OutP.rd_lit w2 [u] 5 (by simp)
      case c1 => simp; omega
      case c2 => have := C2.out.size; simp; omega
      case c3 =>
        intro v' w3 hown' hg'
        have O3 := hid hown'
        have C3 := hid ((C2.out.alloc (.cells #[B u] 5)).grown hg' (fun k hk hlt => by have := own_base O2.out k hk; omega))
        have I3 := hid hg'
        clear hown' hg'
        go_wp2_with fail
        refine ⟨⟨m + 1, rfl, by omega, ?_, ?_, C3.out⟩, by simp [intOf]; omega⟩
        · rw [HT.out, List.length_append, List.map_append]; exact O3.out
        · have hi := I2.out
          have hb := I3.out.block q (by have := C2.out.size; simp; omega) (fun e => by have := own_base O2.out q e.symm; omega)
          exact H.out.chg C3.out (hb.trans ((hi.alloc _).cells.trans (by rw [show 8 * (j + m) + 8 = 8 * (j + (m + 1)) by omega])))
    · go_wp2_with fail
      go_ret
      obtain rfl : m = n := by omega
      exact ⟨_, rfl, O1.out, I1.out, C1.out⟩
end Go.Proofs.Ytjlmbmamkhneiaa
