/- The walk of the program's Tag. -/
import Derived.Test.YtcnfmkhkibfpbaaCat
import Derived.Test.YtcnfmkhkibfpbaaWord
namespace Go.Proofs.Ytcnfmkhkibfpbaa
open Go Go.RowKit
theorem u64_xor_lit1 (x : BitVec 64) : bits .xor .u64 (n64 x) 8317987319222330741 = n64 (x ^^^ 8317987319222330741#64) := u64_xor_bv x 8317987319222330741#64
theorem u64_xor_lit2 (x : BitVec 64) : bits .xor .u64 (n64 x) 7237128888997146477 = n64 (x ^^^ 7237128888997146477#64) := u64_xor_bv x 7237128888997146477#64
theorem u64_xor_lit3 (x : BitVec 64) : bits .xor .u64 (n64 x) 7816392313619706465 = n64 (x ^^^ 7816392313619706465#64) := u64_xor_bv x 7816392313619706465#64
theorem u64_xor_lit4 (x : BitVec 64) : bits .xor .u64 (n64 x) 8387220255154660723 = n64 (x ^^^ 8387220255154660723#64) := u64_xor_bv x 8387220255154660723#64
theorem u64_xor_lit5 (x : BitVec 64) : bits .xor .u64 (n64 x) 255 = n64 (x ^^^ 255#64) := u64_xor_bv x 255#64
attribute [local go_sem] u64_xor_bv u64_add_bv u64_add_bv' u64_or_bv u64_xor_lit1 u64_xor_lit2 u64_xor_lit3 u64_xor_lit4 u64_xor_lit5

def Sip.init (a b : BitVec 64) : Sip := ⟨a ^^^ 8317987319222330741#64, b ^^^ 7237128888997146477#64, a ^^^ 7816392313619706465#64, b ^^^ 8387220255154660723#64⟩
/-- behind m whole words -/
def Sip.words (v : Sip) (bs : List UInt8) : Nat → Sip
  | 0 => v
  | m + 1 => (Sip.words v bs m).word (lowB 0 0 ((bs.drop (8 * m)).take 8))
def Sip.rounds : Nat → Sip → Sip
  | 0, v => v
  | n + 1, v => (Sip.rounds n v).round
def Sip.out (v : Sip) : BitVec 64 := v.a ^^^ v.b ^^^ v.c ^^^ v.d
def Sip.tail (v : Sip) : BitVec 64 := (Sip.rounds 4 ⟨v.a, v.b, v.c ^^^ 255#64, v.d⟩).out
def tagB (a b : BitVec 64) (bs : List UInt8) : BitVec 64 :=
  ((Sip.words (Sip.init a b) bs (bs.length / 8)).word (lowB 0 0 (bs.drop (8 * (bs.length / 8))) ||| BitVec.ofNat 64 bs.length <<< 56)).tail

theorem rd_tail {w : World} {a : Option Addr} {n c k : Nat} {bs : List UInt8} (h : Rd w (.slice a n c) bs) (hk : k ≤ n) :
    Rd w (.slice (if c = k then a else a.map (·.add k)) (n - k) (c - k)) (bs.drop k) := by
  obtain ⟨a', c', he, h1, h2, h3⟩ := h
  simp only [Value.slice.injEq] at he
  obtain ⟨rfl, rfl, rfl⟩ := he
  refine ⟨_, _, by rw [List.length_drop], by rw [List.length_drop]; omega, by omega, fun j u hu => ?_⟩
  rw [List.getElem?_drop] at hu
  obtain ⟨g, off, rfl, hc⟩ := h3 (k + j) u hu
  have hlt : k + j < bs.length := (List.getElem?_eq_some_iff.1 hu).1
  rw [if_neg (by omega)]
  exact ⟨g, off + k, by rw [Option.map_some, Addr.add_lit], by rw [Nat.add_assoc]; exact hc⟩

theorem rd_head {w : World} {a : Option Addr} {n c k : Nat} {bs : List UInt8} (h : Rd w (.slice a n c) bs) (hk : k ≤ n) : Rd w (.slice a k c) (bs.take k) := by
  obtain ⟨a', c', he, h1, h2, h3⟩ := h
  simp only [Value.slice.injEq] at he
  obtain ⟨rfl, rfl, rfl⟩ := he
  refine ⟨_, _, by rw [List.length_take, Nat.min_eq_left hk], by rw [List.length_take]; omega, by omega, fun j u hu => ?_⟩
  rw [List.getElem?_take] at hu
  split at hu
  · exact h3 j u hu
  · cases hu
theorem own_tail {a : Option Addr} {n c k g : Nat} (h : ∀ b, (Value.slice a n c).ownBlock = some b → b ≠ g) : ∀ b, (Value.slice (if c = k then a else a.map (·.add k)) (n - k) (c - k)).ownBlock = some b → b ≠ g := by
  intro b hb
  by_cases hc : c = k
  · rw [if_pos hc] at hb; exact h b (by cases a <;> first | (simp [Value.ownBlock] at hb; done) | simpa [Value.ownBlock] using hb)
  · rw [if_neg hc] at hb
    cases a with
    | none => simp [Value.ownBlock] at hb
    | some a =>
      refine h b ?_
      simp only [Option.map_some, Value.ownBlock, Option.some.injEq] at hb ⊢
      rw [← hb]; unfold Addr.add; split <;> rfl
theorem rd_tail8 {w : World} {a : Option Addr} {n c : Nat} {bs : List UInt8} (h : Rd w (.slice a n c) bs) (hk : 8 ≤ n) :
    Rd w (.slice (if c = 8 then a else a.map (fun x => { block := x.block, off := x.off + 8 })) (n - 8) (c - 8)) (bs.drop 8) := rd_tail h hk
theorem own_tail8 {a : Option Addr} {n c g : Nat} (h : ∀ b, (Value.slice a n c).ownBlock = some b → b ≠ g) :
    ∀ b, (Value.slice (if c = 8 then a else a.map (fun x => { block := x.block, off := x.off + 8 })) (n - 8) (c - 8)).ownBlock = some b → b ≠ g := own_tail (k := 8) h
theorem rd_put {w w' : World} {v : Value} {bs : List UInt8} {g : Nat} (h : Rd w v bs) (hg : w.grownBy w' (some g)) (hn : ∀ b, v.ownBlock = some b → b ≠ g) : Rd w' v bs :=
  h.move fun b hb hlt => hg.block b hlt (fun e => hn b hb (by cases e; rfl))
def lenV : Value → Nat
  | .slice _ n _ => n
  | _ => 0
theorem below_drewN {B : Nat} {w0 w : World} (h : Below B w0 w) (n : Nat) : Below B w0 (w.drewN n) := ⟨h.os, h.tape, h.output, h.size, h.block⟩
theorem below_put {B g : Nat} {w0 w w' : World} (h : Below B w0 w) (hg : w.grownBy w' (some g)) (hB : B ≤ g) (hs : B ≤ w.heap.size) : Below B w0 w' := h.grown hg hs (fun k hk => by cases hk; exact hB)

theorem shl_len (n : Nat) (hn : n ≤ 1048576) : IntKind.u64.wrap ((n : Int) * 72057594037927936) = n64 (BitVec.ofNat 64 n <<< 56) := by
  have h := u64_shl_bv (BitVec.ofNat 64 n) 56
  have e : n64 (BitVec.ofNat 64 n) = (n : Int) := by unfold n64; simp only [BitVec.toNat_ofNat]; omega
  rw [e] at h
  exact h

set_option maxHeartbeats 4000000 in
theorem tag_t (x y : BitVec 64) (pv : Value) (bss : List (List UInt8)) (w0 : World) (hp : RdS w0 pv bss) (htot : bss.flatten.length ≤ 1048576) :
    Calls Try.prog 18 #[U64 x, U64 y, pv] w0 fun e w' => e = .returned (U64 (tagB x y bss.flatten)) ∧ Below w0.heap.size w0 w' := by
  go_enter Try.func18, Try.ntmps18
  go_wp2_with fail
  refine (concat_t pv bss _ (hp.below ((Below.refl _ _).alloc (Nat.le_refl _) _)) htot).mono ?_
  rintro e w1 ⟨v, rfl, hown, hbl⟩
  clear hp
  have HB := hid (Below.trans ((Below.refl _ _).alloc (Nat.le_refl _) _) (hbl.mono (by simp)))
  have G : Hid (w1.heap[w0.heap.size]? = some (.cells (Sip.words (Sip.init x y) bss.flatten 0).cells 62 (0, 0))) := hid ((hbl.block _ (by simp)).trans (heap_alloc_new _ _))
  have HV := hid (Rd.of_owns hown)
  have HN : Hid (∀ b, v.ownBlock = some b → b ≠ w0.heap.size) := hid (fun b hb => by have := (hown.lt b hb).1; simp at this; omega)
  clear hown hbl
  generalize hbs : bss.flatten = bs at *
  have HF := hid hbs
  clear hbs
  obtain ⟨a, c, rfl, hc, hm, _⟩ := id HV.out
  unfold maxLen at hm
  have HT := hid (show tagB x y bs = ((Sip.words (Sip.init x y) bs (bs.length / 8)).word (lowB 0 0 (bs.drop (8 * (bs.length / 8))) ||| BitVec.ofNat 64 bs.length <<< 56)).tail from rfl)
  go_wp2_with fail
  go_loopw [8] (fun al wr => ∃ m : Nat, 8 * m ≤ bs.length ∧ Rd wr al (bs.drop (8 * m)) ∧ (∀ b, al.ownBlock = some b → b ≠ w0.heap.size) ∧ wr.heap[w0.heap.size]? = some (.cells (Sip.words (Sip.init x y) bs m).cells 62 (0, 0)) ∧ Below w0.heap.size w0 wr) (fun al _ => lenV al)
  case atStart => exact ⟨0, by omega, by simpa using HV.out, HN.out, G.out, HB.out⟩
  case round =>
    obtain ⟨m, hm, hrd, hnb, hg, hbl⟩ := hrel
    have HR := hid hrd
    have HNB := hid hnb
    have HG := hid hg
    have HBL := hid hbl
    have hsz := hbl.size
    clear hnb hg hbl
    obtain ⟨al, cl, rfl, hc1, hc2, _⟩ := hrd
    unfold maxLen at hc2
    have HLEN := hid (show (bs.drop (8 * m)).length = bs.length - 8 * m from List.length_drop)
    rw [HLEN.out] at HR HNB hc1 
    rw [HLEN.out]
    have HW := hid (show Sip.words (Sip.init x y) bs (m + 1) = (Sip.words (Sip.init x y) bs m).word (lowB 0 0 ((bs.drop (8 * m)).take 8)) from rfl)
    by_cases hlt : 8 * m + 8 ≤ bs.length
    · go_wp2_with fail
      refine (low_t _ _ _ (rd_head HR.out (k := 8) (by omega)) (by rw [List.length_take]; omega)).mono ?_
      rintro e w' ⟨rfl, rfl⟩
      go_wp2_with fail
      refine (word_t w0.heap.size 62 _ _ _ HG.out).mono ?_
      rintro e w2 ⟨rfl, hg2, hgr⟩
      have HG2 := hid hg2
      have HGR := hid hgr
      clear hg2 hgr
      go_wp2
      refine ⟨⟨m + 1, by omega, ?_, ?_, by rw [HW.out]; exact HG2.out, below_put HBL.out HGR.out (Nat.le_refl _) hsz⟩, by simp [lenV]; omega⟩
      · have := rd_tail8 (rd_put HR.out HGR.out HNB.out) (by omega)
        rw [List.drop_drop] at this
        exact this
      · exact own_tail8 HNB.out
    · obtain rfl : m = bs.length / 8 := by omega
      go_wp2_with fail
      refine (low_t _ _ _ HR.out (by rw [List.length_drop]; omega)).mono ?_
      rintro e w' ⟨rfl, rfl⟩
      have HS := hid (shl_len bs.length htot)
      generalize lowB 0 0 (bs.drop (8 * (bs.length / 8))) = lo at *
      generalize Sip.words (Sip.init x y) bs (bs.length / 8) = vw at *
      go_wp2_with fail
      rw [HS.out, u64_or_bv]
      refine (word_t w0.heap.size 62 _ _ _ HG.out).mono ?_
      rintro e w2 ⟨rfl, hg2, hgr⟩
      have HB2 := hid (below_put HBL.out hgr (Nat.le_refl _) hsz)
      generalize hvw : vw.word (lo ||| BitVec.ofNat 64 bs.length <<< 56) = u at *
      have HVW := hid hvw
      clear hvw hgr
      obtain ⟨a1, b1, c1, d1⟩ := u
      have G2 : Hid (w2.heap[w0.heap.size]? = some (.cells #[U64 a1, U64 b1, U64 c1, U64 d1] 62 (0, 0))) := hid hg2
      clear hg2
      obtain ⟨h0, h1, h2, h3, hf⟩ := cells4 G2.out
      go_wp2
      go_still_tail 7, (by kernel_rfl)
      go_wp2
      have p : _ = some (Obj.cells #[U64 a1, U64 b1, U64 (c1 ^^^ 255#64), U64 d1] 62 (0, 0)) ∧ _ := put4 G2.out 2 (U64 (c1 ^^^ 255#64))
      generalize (w2.setCell ⟨w0.heap.size, 2, none⟩ (U64 (c1 ^^^ 255#64))).drew = w3 at *
      have G3 := hid p.1
      have HB3 := hid (below_put HB2.out p.2 (Nat.le_refl _) HB2.out.size)
      clear p h0 h1 h2 h3 hf
      go_loopw [49] (fun k wr => ∃ m : Nat, k = .int .i64 m ∧ m ≤ 4 ∧ wr.heap[w0.heap.size]? = some (.cells (Sip.rounds m ⟨a1, b1, c1 ^^^ 255#64, d1⟩).cells 62 (0, 0)) ∧ Below w0.heap.size w0 wr) (fun k _ => 4 - (intOf k).toNat)
      case atStart => exact ⟨0, rfl, by omega, G3.out, HB3.out⟩
      case round =>
        obtain ⟨m, rfl, hm, hg, hbl⟩ := hrel
        have HG4 := hid hg
        have HB4 := hid hbl
        clear hg hbl
        by_cases hlt4 : m < 4
        · go_wp2_with fail
          refine (round_t w0.heap.size 62 _ _ HG4.out).mono ?_
          rintro e w5 ⟨rfl, hg5, hgr⟩
          have HG5 := hid hg5
          have HB5 := hid (below_put HB4.out hgr (Nat.le_refl _) HB4.out.size)
          clear hg5 hgr
          go_wp2
          exact ⟨⟨m + 1, by go_num, by omega, HG5.out, HB5.out⟩, by simp [intOf]; omega⟩
        · obtain rfl : m = 4 := by omega
          have HO := hid (show tagB x y bs = (Sip.rounds 4 ⟨a1, b1, c1 ^^^ 255#64, d1⟩).out from HT.out)
          generalize Sip.rounds 4 ⟨a1, b1, c1 ^^^ 255#64, d1⟩ = q at *
          obtain ⟨a2, b2, c2, d2⟩ := q
          obtain ⟨h0, h1, h2, h3, hf⟩ := cells4 (show wr.heap[w0.heap.size]? = some (.cells #[U64 a2, U64 b2, U64 c2, U64 d2] 62 (0, 0)) from HG4.out)
          go_wp2
          go_quiet (fail)
          go_wp2
          go_ret
          refine ⟨?_, below_drewN HB4.out _⟩
          rw [HF.out, HO.out]
          rfl
end Go.Proofs.Ytcnfmkhkibfpbaa
