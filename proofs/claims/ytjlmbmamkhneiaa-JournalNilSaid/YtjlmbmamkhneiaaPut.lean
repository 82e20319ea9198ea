/- The walk of Journal.put where no power goes. -/
import Derived.Test.YtjlmbmamkhneiaaTrm
import Derived.Test.YtjlmbmamkhneiaaFrm
namespace Go.Proofs.Ytjlmbmamkhneiaa
open Go Go.RowKit
set_option maxRecDepth 100000
/-- Behind m writes of bytes, 64 at a time, from block i on. -/
def putD (D : DevS) (i : Nat) (ys : List UInt8) : Nat → DevS
  | 0 => D
  | m + 1 => (putD D i ys m).push (i + m) ((ys.drop (64 * m)).take 64)
theorem putD_same (D : DevS) (i : Nat) (ys : List UInt8) : ∀ m, (putD D i ys m).down = D.down ∧ (putD D i ys m).fuse = D.fuse ∧ (putD D i ys m).lasts = D.lasts ∧ (putD D i ys m).pend.length = D.pend.length + m
  | 0 => ⟨rfl, rfl, rfl, rfl⟩
  | m + 1 => by
    obtain ⟨h1, h2, h3, h4⟩ := putD_same D i ys m
    exact ⟨h1, h2, h3, by simp [putD, DevS.push, h4]; omega⟩
theorem write_ok (D : DevS) (hdn : D.down = false) (hf : D.fuse = 0) (i : Nat) (hi : i < D.lasts.length) (b : List UInt8) (hb : b.length ≤ 64) : D.write i b = (D.push i b, 0) := by
  have hr : D.ready i = 0 := by unfold DevS.ready; rw [if_neg (by simp [hdn]), if_pos (by omega)]
  have ha : D.act = (D, true) := by unfold DevS.act; rw [if_pos hf]
  unfold DevS.write
  rw [if_neg (by simp [hr]), if_neg (by omega), ha, if_pos rfl, Int.toNat_natCast]
/-- The slice's block is one of bytes. -/
def ByteBlk (w : World) (v : Value) : Prop := ∀ g, v.ownBlock = some g → ∃ c f, w.heap[g]? = some (.cells c 5 f)
theorem ByteBlk.stays {S : Nat → Prop} {w w' : World} {v : Value} (h : ByteBlk w v) (c : Chg (Mut S pts w) w w') : ByteBlk w' v := fun g hg => by
  obtain ⟨cs, f, hc⟩ := h g hg
  exact ⟨cs, f, c.stays hc (by simp [pts])⟩
theorem ByteBlk.new {w w' : World} {v : Value} (h : ByteBlk w v) (c : New w w') : ByteBlk w' v := fun g hg => by
  obtain ⟨cs, f, hc⟩ := h g hg
  exact ⟨cs, f, (c.block g (lt_of_block hc) (fun e => e)).trans hc⟩
theorem ByteBlk.not {S : Nat → Prop} {w : World} {v : Value} (h : ByteBlk w v) : ∀ k, v.ownBlock = some k → ¬ Mut S pts w k := fun k hk => by
  obtain ⟨cs, f, hc⟩ := h k hk
  exact not_mut hc (by simp [pts])
theorem Rd.stays {S : Nat → Prop} {w w' : World} {v : Value} {l : List UInt8} (h : Rd w v l) (b : ByteBlk w v) (c : Chg (Mut S pts w) w w') : Rd w' v l :=
  h.move fun g hg hl => c.block g hl (b.not g hg)
theorem ByteBlk.own {w : World} {a : Option Addr} {n c n' c' : Nat} (h : ByteBlk w (.slice a n c)) : ByteBlk w (.slice a n' c') := fun g hg => h g (by cases a with
  | none => cases hg
  | some x => exact hg)
theorem ByteBlk.add {w : World} {a : Option Addr} {n c n' c' k : Nat} (h : ByteBlk w (.slice a n c)) : ByteBlk w (.slice (Option.map (fun x => x.add k) a) n' c') := by
  intro g hg
  refine h g ?_
  cases a with
  | none => simp [Value.ownBlock] at hg
  | some x =>
    simp only [Value.ownBlock, Option.map_some] at hg ⊢
    rw [← hg]; unfold Addr.add; split <;> rfl
set_option maxHeartbeats 4000000 in
theorem put_t {S : Nat → Prop} (w : World) (j d size gen0 term0 used many : Nat) (D : DevS) (h : JIs w j d size gen0 term0 used many) (hd : DevAt S w d D) (hS : ∀ k, w.heap.size ≤ k → S k) (hdn : D.down = false) (hf : D.fuse = 0) (hp : D.pend.length ≤ 1000000)
    (i gen num term : Nat) (hg : gen < 4294967296) (hn : num < 4294967296) (ht : term < 4294967296) (sv : Value) (b : List UInt8) (hs : Rd w sv b) (hsb : ∀ g, sv.ownBlock = some g → g < w.heap.size) (hb : b.length ≤ 1024)
    (hi : i ≤ D.lasts.length) (hroom : b.length + 19 ≤ 64 * (D.lasts.length - i)) :
    Calls Try.prog 67 #[.pointer (some ⟨j, 0, none⟩), .int .i64 i, .agg #[.int .u32 gen, .int .u32 num, .int .u32 term, sv]] w fun e w' => e = .returned (.int .i64 0) ∧ DevAt S w' d (putD D i (OutP.frBytes gen num term b) ((b.length + 82) / 64)) ∧ Chg (Mut S pts w) w w' := by
  have hmost := hd.okk.most
  have hlen : (OutP.frBytes gen num term b).length = b.length + 19 := by
    have := congrArg List.length (frBytes_split gen num term b [])
    rw [List.append_nil] at this
    rw [this]; simp [OutP.be_len]; omega
  have FR := hid (OutP.frame_t (w.alloc (.cells #[.int .u32 gen, .int .u32 num, .int .u32 term, sv] 111)) gen num term hg hn ht sv b (Rd.toP (hs.alloc _)) (fun g hg => by have := hsb g hg; rw [World.size_alloc]; omega) hb)
  generalize OutP.frBytes gen num term b = ys at *
  have HJ := hid h
  have HD := hid hd
  have HS := hid hS
  have HL := hid hlen
  have c0 : New w (w.alloc (.cells #[.int .u32 gen, .int .u32 num, .int .u32 term, sv] 111)) := (Chg.refl _ w).alloc _
  have C0 := hid c0
  obtain ⟨sa, sc, hsv⟩ := hs.shape
  rw [List.length_map] at hsv
  subst hsv
  clear h hd hS hs hsb hlen c0
  go_enter Try.func67, Try.ntmps67
  go_wp2_with fail
  refine FR.out.mono ?_
  rintro e w1 ⟨r, rfl, ho, hc⟩
  have hc1 := C0.out.trans (Chg.ofP hc) (fun _ _ e => e)
  obtain ⟨ra, rc, rfl, hrc, _⟩ := owns_shape ho
  have R1 := hid (show Rd w1 (.slice ra ys.length rc) ys from Rd.ofB ho)
  have B1 := hid (show ByteBlk w1 (.slice ra ys.length rc) from fun g hg => by obtain ⟨_, _, c, hc⟩ := owns_block ho hg; exact ⟨c, _, hc⟩)
  have C1 := hid (show Chg (Mut S pts w) w w1 from hc1.mono fun _ _ e => e.elim)
  have D1 := hid (HD.out.new hc1)
  have J1 := hid (HJ.out.chg hc1 (fun e => e))
  clear ho hc hc1 FR C0
  go_wp2_with fail
  go_loopw [1, 7] (fun k v wr => ∃ (m : Nat) (l : List UInt8) (la : Option Addr) (lc : Nat), k = .int .i64 (i + m : Nat) ∧ v = .slice la l.length lc ∧ l = ys.drop (64 * m) ∧ (m = 0 ∨ 64 * (m - 1) < ys.length) ∧ Rd wr (.slice la l.length lc) l ∧ ByteBlk wr (.slice la l.length lc) ∧ DevAt S wr d (putD D i ys m) ∧ JIs wr j d size gen0 term0 used many ∧ Chg (Mut S pts w) w wr) (fun _ v _ => match v with | .slice _ n _ => n | _ => 0)
  case atStart => exact ⟨0, ys, ra, rc, rfl, rfl, rfl, .inl rfl, R1.out, B1.out, D1.out, J1.out, C1.out⟩
  case round =>
    obtain ⟨W0, rfl⟩ : ∃ W0 : World, W0 = wr := ⟨_, rfl⟩
    obtain ⟨m, l, la, lc, rfl, rfl, hl, hm, hR, hB, hD, hJ, hC⟩ := hrel
    have HLD := hid hl
    have hll : l.length = ys.length - 64 * m := by rw [hl, List.length_drop]
    have HLL := hid hll
    have HM := hid hm
    have R2 := hid (show Rd W0.drew (.slice la l.length lc) l from hR)
    have B2 := hid (show ByteBlk W0.drew (.slice la l.length lc) from hB)
    have D2 := hid (show DevAt S W0.drew d (putD D i ys m) from hD.drawn 1)
    have J2 := hid (show JIs W0.drew j d size gen0 term0 used many from hJ)
    have C2 := hid (show Chg (Mut S pts w) w W0.drew from hC.drewN 1)
    have c0 : W0.cell? ⟨j, 0, none⟩ = some (.pointer (some ⟨d, 0, none⟩)) := (cells7 J2.out).1
    obtain ⟨hp1, hp2, hp3, hp4⟩ := putD_same D i ys m
    have PS := hid (And.intro hp1 (And.intro hp2 (And.intro hp3 hp4)))
    have hcap := hR.cap.2.1
    have HD0 := hid hD
    have HC0 := hid hC
    clear hl hll hm hR hB hD hJ hC hp1 hp2 hp3 hp4
    by_cases h0 : 0 < l.length
    · have him : i + m < D.lasts.length := by have := HLL.out; have := HL.out; omega
      have hadd : IntKind.i64.wrap ((i + m : Nat) + 1 : Int) = ((i + (m + 1) : Nat) : Int) := by rw [IntKind.wrap_i64]; omega
      have WR : Hid (∀ (n : Nat), n ≤ 64 → n ≤ l.length → Calls Try.prog 16 #[.pointer (some ⟨d, 0, none⟩), .int .i64 (i + m : Nat), .slice la n lc] W0.drew fun e w' => e = .returned (.int .i64 0) ∧ DevAt S w' d ((putD D i ys m).push (i + m) (l.take n)) ∧ Chg (Mut S pts W0.drew) W0.drew w') := hid fun n hn1 hn2 => by
        obtain ⟨hp1, hp2, hp3, hp4⟩ := PS.out
        have hw := write_ok (putD D i ys m) (hp1.trans hdn) (hp2.trans hf) (i + m) (by rw [hp3]; exact him) (l.take n) (by rw [List.length_take]; omega)
        refine (Write_t D2.out (fun k hk => HS.out k (Nat.le_trans C2.out.size hk)) ((i + m : Nat) : Int) (.slice la n lc) (l.take n) (R2.out.take n hn2) (fun _ => B2.out.own.not) (by rw [hp4]; omega)).mono ?_
        rw [hw]
        exact fun _ _ h => h
      by_cases h64 : 64 < l.length
      · have WR' := hid (WR.out 64 (by omega) (by omega))
        have hcut : lc - 64 ≠ 0 := by omega
        have hcapI : (64 : Int) ≤ (lc : Int) := by omega
        have hcapJ : ¬ (lc : Int) < 64 := by omega
        have hcapK : 64 ≤ lc := by omega
        go_wp2_with fail
        go_region_held3 (fun w' => w'.cell? ⟨j, 0, none⟩ = some (.pointer (some ⟨d, 0, none⟩)))
          (first | exact (cells7 J2.out).1 | exact (cells7 J3.out).1 | go_keep)
          (first
            | (go_at_call 16; refine WR'.out.mono ?_; rintro e w3 ⟨rfl, hd3, hc3⟩; have D3 := hid hd3; have C3 := hid hc3; have J3 := hid (JIs.dev J2.out hc3); clear hd3 hc3)
            | (go_at_call 69; refine (jtold_t _ _).mono ?_; rintro e w4 ⟨rfl, rfl⟩))
        go_wp2_with fail
        refine ⟨⟨m + 1, l.drop 64, Option.map (fun x => x.add 64) la, lc - 64, vi (by omega), ?_, ?_, ?_, ?_, ?_, ?_, J3.out, C2.out.tr C3.out⟩, ?_⟩
        · rw [List.length_drop]; rfl
        · rw [HLD.out, List.drop_drop]; congr 1
        · right; have := HLL.out; omega
        · rw [List.length_drop]; exact (R2.out.stays B2.out C3.out).drop 64 (by omega)
        · exact (B2.out.stays C3.out).add
        · have := D3.out; rw [HLD.out] at this; exact this
        · show l.length - 64 < l.length; omega
      · have WR' := hid (WR.out l.length (by omega) (by omega))
        go_wp2_with fail
        go_region_held3 (fun w' => w'.cell? ⟨j, 0, none⟩ = some (.pointer (some ⟨d, 0, none⟩)))
          (first | exact (cells7 J2.out).1 | exact (cells7 J3.out).1 | go_keep)
          (first
            | (go_at_call 16; refine WR'.out.mono ?_; rintro e w3 ⟨rfl, hd3, hc3⟩; have D3 := hid hd3; have C3 := hid hc3; have J3 := hid (JIs.dev J2.out hc3); clear hd3 hc3)
            | (go_at_call 69; refine (jtold_t _ _).mono ?_; rintro e w4 ⟨rfl, rfl⟩))
        go_wp2_with fail
        refine ⟨⟨m + 1, [], if lc = l.length then la else Option.map (fun x => x.add l.length) la, lc - l.length, vi (by omega), rfl, ?_, ?_, ?_, ?_, ?_, J3.out, C2.out.tr C3.out⟩, ?_⟩
        · exact (List.drop_eq_nil_of_le (by have := HLL.out; omega)).symm
        · right; have := HLL.out; omega
        · exact ⟨_, lc - l.length, rfl, by simp, by have := R2.out.cap.2.2; omega, fun j u hu => by simp at hu⟩
        · split
          · exact (B2.out.stays C3.out).own
          · exact (B2.out.stays C3.out).add
        · have := D3.out
          rw [List.take_of_length_le (Nat.le_refl _)] at this
          have e : (ys.drop (64 * m)).take 64 = l := by rw [← HLD.out, List.take_of_length_le (by omega)]
          show DevAt S w3 d ((putD D i ys m).push (i + m) ((ys.drop (64 * m)).take 64))
          rw [e]; exact this
        · show 0 < l.length; omega
    · go_wp2_with fail
      go_ret
      obtain rfl : m = (b.length + 82) / 64 := by have := HLL.out; have := HL.out; have := HM.out; omega
      exact ⟨rfl, HD0.out, HC0.out⟩
end Go.Proofs.Ytjlmbmamkhneiaa
