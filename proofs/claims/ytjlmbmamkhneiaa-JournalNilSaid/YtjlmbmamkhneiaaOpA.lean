-- OpA: printed by port.py from seat a's walks.
import Derived.Test.YtjlmbmamkhneiaaProg
import Derived.WalkKit
import Derived.WalkSpells
import Derived.WalkLawsBesides
import Derived.StillTailTactics
import Derived.BigQuiet
import Derived.Deep.QuietTactic
import Derived.Lib.AppendZeros
import Derived.Lib.SlBytesConst
namespace Go.Proofs.Ytjlmbmamkhneiaa.OutP
open Go Go.RowKit
set_option maxRecDepth 100000

theorem hid {p : Prop} (h : p) : Hid p := h
theorem vi {k : IntKind} {a b : Int} (h : a = b) : Value.int k a = .int k b := by rw [h]
theorem vr {v u : Value} (h : v = u) : Ending.returned v = .returned u := by rw [h]
theorem take_snoc {α : Type} {l : List α} {k : Nat} (h : k < l.length) : l.take (k + 1) = l.take k ++ [l[k]] := by
  rw [List.take_succ_eq_append_getElem h]
/-- A byte as a value. -/
abbrev B (u : UInt8) : Value := .int .u8 (u.toNat : Int)

/-- A word of 64 bits as a number. -/
def n64 (x : BitVec 64) : Int := (x.toNat : Int)
theorem n64_range (x : BitVec 64) : 0 ≤ n64 x ∧ n64 x ≤ 18446744073709551615 := ⟨by unfold n64; omega, by have := x.isLt; unfold n64; omega⟩
theorem n64_of (n : Int) (h0 : 0 ≤ n) (h1 : n ≤ 18446744073709551615) : n64 (BitVec.ofNat 64 n.toNat) = n := by
  unfold n64; simp only [BitVec.toNat_ofNat]; omega
abbrev U64 (x : BitVec 64) : Value := .int .u64 (n64 x)

theorem u64_xor_bv (x y : BitVec 64) : bits .xor .u64 (n64 x) (n64 y) = n64 (x ^^^ y) := by
  unfold n64; rw [u64_xor_nat _ _ x.isLt y.isLt, BitVec.toNat_xor]
theorem u64_or_bv (x y : BitVec 64) : bits .or .u64 (n64 x) (n64 y) = n64 (x ||| y) := by
  unfold n64; rw [u64_or_nat _ _ x.isLt y.isLt, BitVec.toNat_or]
theorem u64_add_bv (x y : BitVec 64) : IntKind.u64.wrap (n64 x + n64 y) = n64 (x + y) := by
  unfold n64; simp [IntKind.wrap, IntKind.bits, IntKind.signed]
theorem u64_add_bv' (x y : BitVec 64) : (n64 x + n64 y) % 18446744073709551616 = n64 (x + y) := by
  unfold n64; simp
theorem u64_shl_bv (x : BitVec 64) (k : Nat) : IntKind.u64.wrap (n64 x * 2 ^ k) = n64 (x <<< k) := by
  unfold n64; simp [IntKind.wrap, IntKind.bits, IntKind.signed, Nat.shiftLeft_eq]
theorem u64_shr_bv (x : BitVec 64) (k : Nat) : n64 x / 2 ^ k = n64 (x >>> k) := by
  unfold n64; simp [Nat.shiftRight_eq_div_pow]
theorem rot_bv (x : BitVec 64) (k : Nat) : bits .or .u64 (IntKind.u64.wrap (n64 x * 2 ^ k)) (n64 x / 2 ^ (64 - k)) = n64 (x <<< k ||| x >>> (64 - k)) := by
  rw [u64_shl_bv, u64_shr_bv, u64_or_bv]

/-- 'v' is a slice of bytes that reads 'bs' in w. -/
def Rd (w : World) (v : Value) (bs : List UInt8) : Prop :=
  ∃ a c, v = .slice a bs.length c ∧ bs.length ≤ c ∧ c ≤ maxLen ∧ ∀ j u, bs[j]? = some u → ∃ g off, a = some ⟨g, off, none⟩ ∧ w.cell? ⟨g, off + j, none⟩ = some (B u)

/-- 'v' is a slice of slices of bytes. -/
def RdS (w : World) (v : Value) (bss : List (List UInt8)) : Prop :=
  ∃ a c, v = .slice a bss.length c ∧ bss.length ≤ c ∧ c ≤ maxLen ∧ ∀ j b, bss[j]? = some b → ∃ g off s, a = some ⟨g, off, none⟩ ∧ w.cell? ⟨g, off + j, none⟩ = some s ∧ Rd w s b

section
variable {w w' : World} {v : Value} {bs : List UInt8}
theorem lt_of_cell {g i : Nat} {u : Value} (h : w.cell? ⟨g, i, none⟩ = some u) : g < w.heap.size := block_lt_of_cell h
theorem Rd.move (h : Rd w v bs) (hm : ∀ g, v.ownBlock = some g → g < w.heap.size → w'.heap[g]? = w.heap[g]?) : Rd w' v bs := by
  obtain ⟨a, c, rfl, h1, h2, h3⟩ := h
  refine ⟨a, c, rfl, h1, h2, fun j u hu => ?_⟩
  obtain ⟨g, off, rfl, hc⟩ := h3 j u hu
  exact ⟨g, off, rfl, (World.cell?_of_block (hm g rfl (lt_of_cell hc))).trans hc⟩
theorem Rd.below (h : Rd w v bs) (hb : Below w.heap.size w w') : Rd w' v bs := h.move fun g _ hg => hb.block g hg
theorem Rd.drew (h : Rd w v bs) : Rd w.drew v bs := h.move fun _ _ _ => rfl
theorem Rd.alloc (h : Rd w v bs) (o : Obj) : Rd (w.alloc o) v bs := h.move fun g _ hg => Below.heap_alloc w o g hg
theorem Rd.nil (w : World) : Rd w (.slice none 0 0) [] := ⟨none, 0, rfl, Nat.le_refl _, by simp [maxLen], fun j u h => by simp at h⟩
theorem RdS.move {bss : List (List UInt8)} (h : RdS w v bss) (hm : ∀ g, g < w.heap.size → w'.heap[g]? = w.heap[g]?) : RdS w' v bss := by
  obtain ⟨a, c, rfl, h1, h2, h3⟩ := h
  refine ⟨a, c, rfl, h1, h2, fun j u hu => ?_⟩
  obtain ⟨g, off, s, rfl, hc, hr⟩ := h3 j u hu
  exact ⟨g, off, s, rfl, (World.cell?_of_block (hm g (lt_of_cell hc))).trans hc, hr.move fun g _ hg => hm g hg⟩
theorem RdS.below {bss : List (List UInt8)} (h : RdS w v bss) (hb : Below w.heap.size w w') : RdS w' v bss := h.move fun g hg => hb.block g hg
/-- A row of one's own that holds bytes reads as they are. -/
theorem Rd.of_owns {base : Nat} {e : TypeId} (h : w.ownsRow base e 1 v bs.length (bs.map B)) : Rd w v bs := by
  rcases h.2 with ⟨rfl, hn⟩ | ⟨g, cap, cur, rfl, hbg, hg, hnc, hcm, hcs, htake⟩
  · rw [List.length_eq_zero_iff.1 hn]; exact Rd.nil w
  · refine ⟨some ⟨g, 0, none⟩, cap, rfl, hnc, hcm, fun j u hu => ⟨g, 0, rfl, ?_⟩⟩
    rw [cell_of_row w g _ cur e (0, 0) hg, Nat.zero_add]
    have : (cur.toList.take (bs.length * 1))[j]? = some (B u) := by rw [htake]; simp [hu]
    rw [List.getElem?_take] at this
    split at this
    · simpa using this
    · cases this
end
/-- What is asked of the program's types: 't' is '[]e', of elements of one cell, 'by' bytes each, with zero value z. -/
structure SliceTy (P : Program) (t e : TypeId) (z : Value) (by_ : Nat) : Prop where
  under : P.underlying t = some (.slice e)
  info : ∃ i, P.info? e = some i ∧ i.zero = some z ∧ i.size = 1 ∧ i.bytes = by_
/-- 'xs' are the cells that a slice of one-celled elements reads. -/
def RdV (w : World) (v : Value) (xs : List Value) : Prop :=
  ∃ a c, v = .slice a xs.length c ∧ ∀ j u, xs[j]? = some u → ∃ g off, a = some ⟨g, off, none⟩ ∧ w.cell? ⟨g, off + j, none⟩ = some u
theorem Rd.rdV {w : World} {v : Value} {bs : List UInt8} (h : Rd w v bs) : RdV w v (bs.map B) := by
  obtain ⟨a, c, rfl, _, _, h3⟩ := h
  refine ⟨a, c, by rw [List.length_map], fun j u hu => ?_⟩
  rw [List.getElem?_map, Option.map_eq_some_iff] at hu
  obtain ⟨x, hx, rfl⟩ := hu
  exact h3 j x hx
theorem run_append_rdV {P : Program} {w : World} {t ty e : TypeId} {z : Value} {by_ : Nat} (T : SliceTy P t e z by_) (hz : z.cells.size = 1) {base : Nat} {v : Value} {l : List Value} (hown : w.ownsRow base e 1 v l.length l)
    {x : Value} {xs : List Value} (hx : RdV w x xs) (h1 : ∀ u ∈ xs, u.oneCell' = true) (hlen : (l.length + xs.length) * by_ ≤ 140737488355328) (hlm : l.length + xs.length ≤ maxLen) (hbase : base ≤ w.heap.size) :
    ∃ v' w', (Builtin.append_ #[t, t] ty #[v, x]).run P w = .ok v' w' ∧ w'.ownsRow base e 1 v' (l ++ xs).length (l ++ xs) ∧ w.grownBy w' v.ownBlock := by
  obtain ⟨i, hi, hiz, his, hib⟩ := T.info
  obtain ⟨a, c, rfl, hc⟩ := hx
  by_cases hxs : xs = []
  · subst hxs
    obtain ⟨v', w', hr, ho, hg, _⟩ := run_append_own (P := P) w base t ty e i z 1 by_ T.under hi hiz his hib hz (by decide) v l.length l hown (a.getD ⟨0, 0, none⟩) 0 c [] rfl (fun j u h => by simp at h) (by simp) (by simpa using hlm) (by simpa using hlen) hbase
    cases a with
    | none =>
      refine ⟨v', w', ?_, by simpa using ho, hg⟩
      rw [← hr]
      rcases hown.2 with ⟨rfl, hn⟩ | ⟨g, cap, cur, rfl, hbg, hgg, hnc, hcm, hcs, htake⟩ <;>
        simp [Builtin.append_, run_underlying T.under, sizeOf, typeInfo, Builtin.lenOf, Builtin.firstCells, loadCells, loadCellsFrom, *]
    | some a => exact ⟨v', w', hr, by simpa using ho, hg⟩
  · obtain ⟨x0, xs0, hx0⟩ := List.exists_cons_of_ne_nil hxs
    obtain ⟨g, off, rfl, _⟩ := hc 0 x0 (by rw [hx0]; rfl)
    obtain ⟨v', w', hr, ho, hg, _⟩ := run_append_own (P := P) w base t ty e i z 1 by_ T.under hi hiz his hib hz (by decide) v l.length l hown ⟨g, off, none⟩ xs.length c xs (by omega)
      (fun j u hu => by
        obtain ⟨g', off', hh, hcell⟩ := hc j u hu
        simp only [Option.some.injEq, Addr.mk.injEq, and_true] at hh
        obtain ⟨rfl, rfl⟩ := hh
        rw [Addr.add_lit]; exact hcell) h1 hlm hlen hbase
    exact ⟨v', w', hr, by simpa using ho, hg⟩
theorem wpl_append_bytes {P : Program} {ops : Array Oper} {rest : List Oper} {o : Oper} {a : Act} {w : World} {Q : Exit → Act → World → Prop} (hgd : o.guard = none) (s x : Operand) (t : TypeId)
    (ho : o.op = .call { callee := .builtin .append, args := #[s, x], argTypes := #[t, t] }) {e : TypeId} (T : SliceTy P t e (.int .u8 0) 1) (base : Nat) (v : Value) (l : List UInt8) (hs : a.eval s = v)
    (hown : w.ownsRow base e 1 v l.length (l.map B)) (xv : Value) (hxv : a.eval x = xv) (bs : List UInt8) (hr : Rd w xv bs) (hlen : l.length + bs.length ≤ 1099511627776) (hbase : base ≤ w.heap.size)
    (h : ∀ v' w', w'.ownsRow base e 1 v' (l ++ bs).length ((l ++ bs).map B) → w.grownBy w' v.ownBlock → wpList P ops Q rest (a.put o.dst v') w') : wpList P ops Q (o :: rest) a w := by
  have hown' : w.ownsRow base e 1 v (l.map B).length (l.map B) := by rw [List.length_map]; exact hown
  have hl1 : (l.map B).length + (bs.map B).length = l.length + bs.length := by rw [List.length_map, List.length_map]
  obtain ⟨v', w', hrun, h1, h2⟩ := run_append_rdV (P := P) (ty := o.type) T rfl hown' hr.rdV (fun u hu => by
    obtain ⟨_, _, rfl⟩ := List.mem_map.1 hu; rfl) (by rw [hl1]; omega) (by rw [hl1]; unfold maxLen; omega) hbase
  rw [← List.map_append, List.length_map] at h1
  exact Lib.wpList_append_run w hgd s x t t ho v xv hs hxv v' w' hrun (h v' w' h1 h2)
theorem below_grown {base : Nat} {w0 w w' : World} {v : Value} {e n : Nat} {xs : List Value} (hb : Below base w0 w) (ho : w.ownsRow base e 1 v n xs) (hg : w.grownBy w' v.ownBlock) (hbase : base ≤ w.heap.size) : Below base w0 w' :=
  hb.grown hg hbase (fun k hk => (ho.lt k hk).1)
theorem info5 : (Try.prog.info? 5).map (fun i => (i.zero, i.size, i.bytes)) = some (some (.int .u8 0), 1, 1) := by kernel_rfl
theorem T22 : SliceTy Try.prog 22 5 (.int .u8 0) 1 := ⟨Try.underlying22, info_parts info5⟩
theorem U3 : Try.prog.underlying 3 = some (.int .i64) := Try.underlying3
theorem flat_take_le (bss : List (List UInt8)) (m : Nat) : (bss.take m).flatten.length ≤ bss.flatten.length := by
  have : bss.flatten = (bss.take m).flatten ++ (bss.drop m).flatten := by rw [← List.flatten_append, List.take_append_drop]
  rw [this, List.length_append]; omega
def crcBitI (w : Int) : Int := bits .xor .u32 (w / 2) (3988292384 * bits .and .u32 w 1 % 4294967296)
def crcBitsI : Nat → Int → Int
  | 0, w => w
  | n + 1, w => crcBitI (crcBitsI n w)
def crcByteI (w : Int) (u : UInt8) : Int := crcBitsI 8 (bits .xor .u32 w (u.toNat : Int))
def crcI (w : Int) (l : List UInt8) : Int := l.foldl crcByteI w
theorem crcI_snoc (y : Int) (l : List UInt8) (u : UInt8) : crcI y (l ++ [u]) = crcByteI (crcI y l) u := by simp [crcI]
theorem crcI_flat (y : Int) (l : List (List UInt8)) (b : List UInt8) : crcI y (l ++ [b]).flatten = crcI (crcI y l.flatten) b := by simp [crcI]
theorem crc_t (w0 : World) (pv : Value) (bss : List (List UInt8)) (hp : RdS w0 pv bss) :
    Calls Try.prog 85 #[pv] w0 fun e w' => e = .returned (.int .u32 (bits .xor .u32 4294967295 (crcI 4294967295 bss.flatten))) ∧ w0 = w' := by
  obtain ⟨a, c, rfl, hc, hm, hcell⟩ := hp
  unfold maxLen at hm
  have H := hid hcell
  clear hcell
  go_enter Try.func85, Try.ntmps85
  go_wp2
  go_loop [3, 10] (fun x k => ∃ m : Nat, k = .int .i64 m ∧ m ≤ bss.length ∧ x = .int .u32 (crcI 4294967295 (bss.take m).flatten)) (fun x k => bss.length - (intOf k).toNat)
  case atStart => exact ⟨0, rfl, by omega, rfl⟩
  case round =>
    obtain ⟨m, rfl, hm, rfl⟩ := hrel
    by_cases hlt : m < bss.length
    · obtain ⟨g, off, s, rfl, hv, b, cb, rfl, hb1, hb2, hb3⟩ := H.out m _ (List.getElem?_eq_getElem hlt)
      unfold maxLen at hb2
      have HS := hid (take_snoc hlt)
      generalize bss[m] = bs at *
      have Hb := hid hb3
      clear hb3
      generalize HY : crcI 4294967295 (bss.take m).flatten = y at *
      have HY' := hid HY
      clear HY
      go_wp2
      go_loop [3, 16] (fun x i => ∃ m : Nat, i = .int .i64 m ∧ m ≤ bs.length ∧ x = .int .u32 (crcI y (bs.take m))) (fun x i => bs.length - (intOf i).toNat)
      case atStart => exact ⟨0, rfl, by omega, rfl⟩
      case round =>
        obtain ⟨i, rfl, hi, rfl⟩ := hrel
        by_cases hli : i < bs.length
        · obtain ⟨g', off', rfl, hv'⟩ := Hb.out i _ (List.getElem?_eq_getElem hli)
          have HT := hid (take_snoc hli)
          have hu := bs[i].toNat_lt
          generalize bs[i] = u at *
          generalize HZ : crcI y (bs.take i) = z at *
          have HZ' := hid HZ
          clear HZ
          go_wp2
          go_loop [3, 24] (fun x r => ∃ k : Nat, r = .int .i64 k ∧ k ≤ 8 ∧ x = .int .u32 (crcBitsI k (bits .xor .u32 z (u.toNat : Int)))) (fun x r => 8 - (intOf r).toNat)
          case atStart => exact ⟨0, rfl, by omega, rfl⟩
          case round =>
            obtain ⟨k, rfl, hk, rfl⟩ := hrel
            have HQ := hid (show crcBitsI (k + 1) (bits .xor .u32 z (u.toNat : Int)) = crcBitI (crcBitsI k (bits .xor .u32 z (u.toNat : Int))) from rfl)
            generalize HE : crcBitsI k (bits .xor .u32 z (u.toNat : Int)) = q at *
            have HE' := hid HE
            clear HE
            by_cases hkk : k < 8
            · go_wp2
              exact ⟨⟨k + 1, by go_num, by omega, vi (by rw [HQ.out]; rfl)⟩, by simp [intOf]; omega⟩
            · go_wp2
              obtain rfl : k = 8 := by omega
              exact ⟨⟨i + 1, by go_num, by omega, vi (by rw [HT.out, crcI_snoc, HZ'.out]; exact HE'.out.symm)⟩, by simp [intOf]; omega⟩
        · go_wp2
          obtain rfl : i = bs.length := by omega
          exact ⟨⟨m + 1, by go_num, by omega, vi (by rw [HS.out, crcI_flat, HY'.out, List.take_of_length_le (Nat.le_refl _)])⟩, by simp [intOf]; omega⟩
    · go_wp2
      go_ret
      obtain rfl : m = bss.length := by omega
      refine ⟨?_, rfl⟩
      simp [List.take_of_length_le, IntKind.max, IntKind.bits, IntKind.signed]
theorem rd_lit (w : World) (bs : List UInt8) (e : TypeId) (h : bs.length ≤ 1048576) : Rd (w.alloc (.cells (bs.map B).toArray e)) (.slice (some ⟨w.heap.size, 0, none⟩) bs.length bs.length) bs :=
  ⟨_, _, rfl, Nat.le_refl _, by unfold maxLen; omega, fun j u hu => ⟨w.heap.size, 0, rfl, by rw [Nat.zero_add, cell_of_row _ _ _ _ _ _ (heap_alloc_new w _)]; simp [hu]⟩⟩
theorem rdS_one {w : World} {v : Value} {bs : List UInt8} (e : TypeId) (h : Rd w v bs) : RdS (w.alloc (.cells #[v] e)) (.slice (some ⟨w.heap.size, 0, none⟩) 1 1) [bs] :=
  ⟨_, _, rfl, Nat.le_refl _, by unfold maxLen; omega, fun j b hb => by
    cases j with
    | zero =>
      simp only [List.getElem?_cons_zero, Option.some.injEq] at hb
      subst hb
      exact ⟨w.heap.size, 0, v, rfl, by rw [cell_of_row _ _ _ _ _ _ (heap_alloc_new w _)]; rfl, h.alloc _⟩
    | succ j => simp at hb⟩
theorem rdS_lit (w : World) (bs : List UInt8) (e e' : TypeId) (h : bs.length ≤ 1048576) :
    RdS ((w.alloc (.cells (bs.map B).toArray e)).alloc (.cells #[.slice (some ⟨w.heap.size, 0, none⟩) bs.length bs.length] e')) (.slice (some ⟨w.heap.size + 1, 0, none⟩) 1 1) [bs] := by
  have := rdS_one e' (rd_lit w bs e h)
  rw [World.size_alloc] at this
  exact this
theorem own_empty (w : World) (base : Nat) (e : TypeId) (h : base ≤ w.heap.size) : (w.alloc (.cells #[] e)).ownsRow base e 1 (.slice (some ⟨w.heap.size, 0, none⟩) 0 0) ([] : List UInt8).length (([] : List UInt8).map B) :=
  World.ownsRow_made w #[] 0 h (by unfold maxLen; omega) rfl
theorem near {w w' : World} {o : Obj} (h : Below (w.alloc o).heap.size (w.alloc o) w') : Below w.heap.size w w' := ((Below.refl _ w).alloc (Nat.le_refl _) _).trans (h.mono (Nat.le_of_lt (by simp)))
end Go.Proofs.Ytjlmbmamkhneiaa.OutP
