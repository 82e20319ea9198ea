/- The walk of layer 10's awake. -/
import Derived.Test.YtjlmbmamkhneiaaBar
import Derived.Test.YtjlmbmamkhneiaaAwb
namespace Go.Proofs.Ytjlmbmamkhneiaa
open Go Go.RowKit
set_option maxRecDepth 100000
set_option maxHeartbeats 4000000 in
theorem awakeJ_t (w : World) : Calls Try.prog 34 #[] w fun e w' => e = .returned (.bool true) ∧ New w w' := by
  have S0 : Hid (∀ k, w.heap.size ≤ k → (fun k => w.heap.size ≤ k) k) := hid fun k hk => hk
  have kc := fun (w : World) (C : Array Value) (n c : Nat) => Lib.run_convert_bytes_const (P := Try.prog) w 22 5 C n c Try.underlying22 Try.underlying5
  go_enter Try.func34, Try.ntmps34
  go_wp2_with fail
  refine (New_any 10 w (fun k => w.heap.size ≤ k) S0.out).mono ?_
  rintro e w1 ⟨d, rfl, hd, hn⟩
  have D1 := hid (show DevAt (fun k => w.heap.size ≤ k) w1 d (DevS.new (10 : Nat)) from hd)
  have C1 := hid hn
  clear hd hn
  go_wp2_with fail
  refine (open_t w1 d _ D1.out 4 none (bare_new 10 (by omega) (by omega))).mono ?_
  rintro e w2 ⟨j, v, rfl, hj, rfl, hn, hjb⟩
  have D2 := hid (D1.out.new hn)
  have J2 := hid (show JIs w2 j d 4 0 1 0 0 from hj)
  have C2 := hid (C1.out.trans hn (fun _ _ e => e))
  have SJ := hid (show w.heap.size ≤ j from Nat.le_trans C1.out.size hjb)
  clear hj hn hjb
  go_wp2_with fail
  have R3 := hid (show Rd (w2.alloc (.cells #[.int .u8 97, .int .u8 98, .int .u8 99] 5 (3, 4))) (.slice (some ⟨w2.heap.size, 0, none⟩) 3 3) abc from rdB_new w2 [97, 98, 99] 3 rfl (by omega) (3, 4))
  have C3 := hid (C2.out.alloc (.cells #[.int .u8 97, .int .u8 98, .int .u8 99] 5 (3, 4)))
  have J3 := hid (J2.out.chg ((Chg.refl (fun _ => False) w2).alloc (.cells #[.int .u8 97, .int .u8 98, .int .u8 99] 5 (3, 4))) (fun e => e))
  have D3 := hid (D2.out.alloc (.cells #[.int .u8 97, .int .u8 98, .int .u8 99] 5 (3, 4)))
  have L3 := hid (show ∀ g, (Value.slice (some ⟨w2.heap.size, 0, none⟩) 3 3).ownBlock = some g → g < (w2.alloc (.cells #[.int .u8 97, .int .u8 98, .int .u8 99] 5 (3, 4))).heap.size from fun g hg => by
    have : w2.heap.size = g := by simpa [Value.ownBlock] using hg
    rw [World.size_alloc]; omega)
  generalize w2.alloc (.cells #[.int .u8 97, .int .u8 98, .int .u8 99] 5 (3, 4)) = w3 at *
  generalize w2.heap.size = z at *
  obtain ⟨hnok, hnl, _⟩ := new_ok 10 (by omega)
  refine (append_t w3 j d 4 0 1 0 0 _ J3.out SJ.out D3.out (fun k hk => Nat.le_trans C3.out.size hk) rfl rfl (by simp [DevS.new]) (by rw [hnl]; omega) (by omega) (by omega) (by omega) (by omega) _ abc R3.out L3.out (by simp [abc]) (by simp [abc])).mono ?_
  rintro e w4 ⟨rfl, hj, hd, hc⟩
  have J4 := hid (show JIs w4 j d 4 0 1 1 1 from hj)
  have D4 := hid (show DevAt (fun k => w.heap.size ≤ k) w4 d (putD (DevS.new (10 : Nat)) 2 (OutP.frBytes 0 0 1 abc) 1) from hd)
  have C4 := hid (show New w w4 from C3.out.trans hc (fun i hi e => by have := e.1; omega))
  clear hj hd hc
  go_wp2_with fail
  refine (sync_t w4 j d 4 0 1 1 1 _ J4.out D4.out rfl rfl).mono ?_
  rintro e w5 ⟨rfl, hd, hc⟩
  have J5 := hid (JIs.dev J4.out hc)
  have D5 := hid (show DevAt (fun k => w.heap.size ≤ k) w5 d oneD from hd)
  have C5 := hid (show New w w5 from C4.out.trans hc (fun i hi e => by have := e.1; omega))
  clear hd hc
  go_wp2_with fail
  refine (open_t w5 d _ D5.out 4 (some (1, abc)) bare_one).mono ?_
  rintro e w6 ⟨j2, v, rfl, _, ⟨ea, ec, sa, sc, rfl, he, hs⟩, hn, _⟩
  have J6 := hid (J5.out.chg hn (fun e => e))
  have C6 := hid (C5.out.trans hn (fun _ _ e => e))
  have E6 := hid he
  have S6 := hid (show Rd w6 (.slice sa 3 sc) abc from Rd.ofB hs)
  obtain ⟨xa, xc, h1, _, _, h2⟩ := RdV.of_owns he
  obtain ⟨g, off, rfl, hcell⟩ := h2 0 _ rfl
  injection h1 with e1 e2 e3
  subst e1 e3
  rw [Nat.add_zero] at hcell
  have hcell' := hid hcell
  have hnj := hid hn
  clear he hs hn h2 e2 hcell
  have hcell := hcell'.out
  have hstr : ∀ k, (convert 22 9 (.slice sa abc.length sc)).run Try.prog (w6.drewN k) = .ok (.string { data := #[97, 98, 99] }) (w6.drewN k) := fun k => bytes_str (show Rd (w6.drewN k) (.slice sa 3 sc) abc from S6.out)
  have hn45 : needZ 45 = 1 := by decide
  have hn46 : needZ 46 = 2 := by decide
  have N45 : Hid (∀ w, Calls Try.prog 32 #[.int .i64 45] w fun e w' => e = .returned (I 1) ∧ w = w') := hid fun w => by have := need_t 45 w; rw [hn45] at this; exact this
  have N46 : Hid (∀ w, Calls Try.prog 32 #[.int .i64 46] w fun e w' => e = .returned (I 2) ∧ w = w') := hid fun w => by have := need_t 46 w; rw [hn46] at this; exact this
  clear hn45 hn46
  go_wp2_with fail
  refine (jroom_t w6 j d 4 0 1 1 1 J6.out (by omega) (by omega)).mono ?_
  rintro e w7 ⟨rfl, nd, rfl⟩
  go_wp2_with fail
  refine (N45.out _).mono ?_
  rintro e w8 ⟨rfl, rfl⟩
  go_wp2_with fail
  refine (N46.out _).mono ?_
  rintro e w9 ⟨rfl, rfl⟩
  go_wp2_with fail
  go_ret
  exact ⟨rfl, C6.out.drewN nd⟩
end Go.Proofs.Ytjlmbmamkhneiaa
