/- The walk of Journal.wipe where all is noughts. -/
import Derived.Test.YtjlmbmamkhneiaaTrm
import Derived.Test.YtjlmbmamkhneiaaEql
namespace Go.Proofs.Ytjlmbmamkhneiaa
open Go Go.RowKit
set_option maxRecDepth 100000
/-- The cells of n noughts. -/
def zeroA (n : Nat) : Array Value := ((List.replicate n (0 : UInt8)).map B).toArray
theorem mkzero (n : Nat) (hn : n ≤ 65536) (w : World) : (Instr.makeSlice 22 (I n) (I n)).run Try.prog w = .ok (.slice (some ⟨w.heap.size, 0, none⟩) n n) (w.alloc (.cells (zeroA n) 5)) := by
  obtain ⟨i, hi, hz, hs, hb⟩ := info_parts info5
  rw [run_make (P := Try.prog) w 22 5 i _ Try.underlying22 hi hz .i64 .i64 n n (by omega) (by omega) (by rw [hb]; omega) (by omega), hs, Int.toNat_natCast]
  have e : madeCells (Value.int .u8 0).cells (n * 1) = zeroA n := by
    rw [show (Value.int .u8 0).cells = Array.replicate 1 (.int .u8 0) from rfl, madeCells_const _ _ _ (by decide)]
    apply Array.ext'
    rw [Array.toList_replicate, Nat.mul_one]
    simp only [zeroA, List.map_replicate]; rfl
  rw [e]
theorem zero_rd (n : Nat) (hn : n ≤ 65536) (w : World) : Rd (w.alloc (.cells (zeroA n) 5)) (.slice (some ⟨w.heap.size, 0, none⟩) n n) (List.replicate n 0) := by
  refine ⟨some ⟨w.heap.size, 0, none⟩, n, by simp, by simp, by simp [maxLen]; omega, fun j u hu => ⟨_, 0, rfl, ?_⟩⟩
  rw [cell_of_row _ _ _ _ _ _ (heap_alloc_new w _), Nat.zero_add]
  unfold zeroA; rw [List.getElem?_toArray]; exact hu
set_option maxHeartbeats 4000000 in
theorem wipe_t {S : Nat → Prop} (w : World) (j d size gen0 term used many gen from_ : Nat) (D : DevS) (h : JIs w j d size gen0 term used many) (hd : DevAt S w d D) (hdn : D.down = false) (hs : 2 + 2 * size ≤ D.lasts.length) (hg : gen < 4294967296) (hf : from_ ≤ size)
    (hz : ∀ k, from_ ≤ k → k < size → D.block (2 + gen % 2 * size + k) = blank) :
    Calls Try.prog 66 #[.pointer (some ⟨j, 0, none⟩), .int .u32 gen, .int .i64 from_] w fun e w' => e = .returned (.int .i64 0) ∧ New w w' := by
  have hok := hd.okk
  have hmost := hok.most
  have hfst : 2 + gen % 2 * size + size ≤ D.lasts.length := by
    have : gen % 2 = 0 ∨ gen % 2 = 1 := by omega
    rcases this with e | e <;> rw [e] <;> omega
  have F1 : Hid (∀ w', JIs w' j d size gen0 term used many → Calls Try.prog 68 #[.pointer (some ⟨j, 0, none⟩), .int .u32 gen] w' fun e w'' => e = .returned (I ((2 + gen % 2 * size : Nat) : Int)) ∧ w' = w'') := hid fun w' h' => jfirst_t w' j d size gen0 term used many gen h' (by omega) hg
  generalize 2 + gen % 2 * size = fst at *
  have HJ := hid h
  have HD := hid hd
  have HZ := hid hz
  clear h hd hz
  have hmk : ∀ w : World, (Instr.makeSlice 22 (.int .i64 64) (.int .i64 64)).run Try.prog w = .ok (.slice (some ⟨w.heap.size, 0, none⟩) 64 64) (w.alloc (.cells (zeroA 64) 5)) := mkzero 64 (by omega)
  have efrom : IntKind.i64.wrap ((fst : Int) + from_) = ((fst + from_ : Nat) : Int) := by rw [IntKind.wrap_i64]; omega
  have R0 := hid (zero_rd 64 (by omega) w)
  have C0 : Hid (New w (w.alloc (.cells (zeroA 64) 5))) := hid ((Chg.refl _ w).alloc _)
  go_enter Try.func66, Try.ntmps66
  go_wp2_with fail
  generalize w.alloc (.cells (zeroA 64) 5) = wa at *
  generalize w.heap.size = z at *
  refine (F1.out _ (HJ.out.chg C0.out (fun e => e))).mono ?_
  rintro e w1 ⟨rfl, rfl⟩
  go_wp2_with fail
  go_loopw [8, 9] (fun v k wr => ∃ m : Nat, v = .bool false ∧ k = .int .i64 m ∧ m ≤ fst + size ∧ fst + from_ ≤ m ∧ New w wr ∧ Rd wr (.slice (some ⟨z, 0, none⟩) 64 64) (List.replicate 64 0)) (fun _ k _ => fst + size - (intOf k).toNat)
  case atStart => exact ⟨fst + from_, rfl, rfl, by omega, by omega, C0.out, R0.out⟩
  case round =>
    obtain ⟨W0, rfl⟩ : ∃ W0 : World, W0 = wr := ⟨_, rfl⟩
    obtain ⟨m, rfl, rfl, hm, hm2, hC, hR⟩ := hrel
    have C1 := hid hC
    have R1 := hid hR
    have J1 := hid (HJ.out.chg hC (fun e => e))
    have D1 := hid (HD.out.new hC)
    clear hC hR
    have hadd : IntKind.i64.wrap ((fst : Int) + size) = ((fst + size : Nat) : Int) := by rw [IntKind.wrap_i64]; omega
    have hm1 : IntKind.i64.wrap ((m : Int) + 1) = ((m + 1 : Nat) : Int) := by rw [IntKind.wrap_i64]; omega
    have c1 : W0.cell? ⟨j, 1, none⟩ = some (I size) := (cells7 J1.out).2.1
    have JD := hid (show JIs W0.drew j d size gen0 term used many from J1.out)
    have DD := hid (show DevAt S W0.drew d D from D1.out.drawn 1)
    have RD := hid (show Rd W0.drew (.slice (some ⟨z, 0, none⟩) 64 64) (List.replicate 64 0) from R1.out)
    have CD := hid (show New w W0.drew from C1.out.drewN 1)
    go_wp2_with fail
    go_region_held3 (fun w' => w'.cell? ⟨j, 1, none⟩ = some (I size))
      (first | exact (cells7 J1.out).2.1 | exact (cells7 JD.out).2.1 | go_keep)
      (first
        | (go_at_call 68; refine (F1.out _ JD.out).mono ?_; rintro e w2 ⟨rfl, rfl⟩))
    clear c1
    have c0 : W0.drew.cell? ⟨j, 0, none⟩ = some (.pointer (some ⟨d, 0, none⟩)) := (cells7 JD.out).1
    clear J1 D1 R1 C1
    generalize W0.drew = W1 at *
    by_cases hlt : m < fst + size
    · have hbl := HZ.out (m - fst) (by omega) (by omega)
      rw [show fst + (m - fst) = m by omega] at hbl
      go_wp2_with fail
      refine (read_t (S := S) (D := D) DD.out hdn m (by omega)).mono ?_
      rintro e w2 ⟨ra, rc, rfl, ho, hn⟩
      rw [hbl] at ho
      have C2 := hid (CD.out.trans hn (fun _ _ e => e))
      have R2 := hid (show Rd w2 (.slice ra 64 rc) blank from Rd.ofB ho)
      have Z2 := hid (show Rd w2 (.slice (some ⟨z, 0, none⟩) 64 64) (List.replicate 64 0) from RD.out.move (w' := w2) fun g hg hl => hn.block g hl (fun e => e))
      clear ho hn c0
      go_wp2_with fail
      refine (equal_t w2 _ _ blank (List.replicate 64 0) R2.out Z2.out (by simp [blank]) (by simp)).mono ?_
      rw [show decide (blank = List.replicate 64 0) = true from decide_eq_true rfl]
      rintro e w3 ⟨rfl, nd, rfl⟩
      go_wp2_with fail
      refine (jtold_t _ _).mono ?_
      rintro e w4 ⟨rfl, rfl⟩
      go_wp2_with fail
      exact ⟨⟨m + 1, rfl, rfl, by omega, by omega, C2.out.drewN nd, Z2.out⟩, by simp [intOf]; omega⟩
    · go_wp2_with fail
      go_ret
      exact ⟨rfl, CD.out⟩
end Go.Proofs.Ytjlmbmamkhneiaa
