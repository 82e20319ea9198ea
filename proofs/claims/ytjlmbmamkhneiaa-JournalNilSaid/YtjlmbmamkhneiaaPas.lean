/- The walk of journal.parse where a frame begins. -/
import Derived.Test.YtjlmbmamkhneiaaPar
import Derived.Test.YtjlmbmamkhneiaaFrm
import Derived.Test.YtjlmbmamkhneiaaAwb
namespace Go.Proofs.Ytjlmbmamkhneiaa
open Go Go.RowKit
set_option maxRecDepth 100000
theorem be_succ (m x : Nat) : OutP.be (m + 1) x = OutP.be m (x / 256) ++ [UInt8.ofNat (x % 256)] := by
  unfold OutP.be
  rw [List.range_succ, List.map_append]
  congr 1
  · apply List.map_congr_left
    intro j hj
    have hj := List.mem_range.1 hj
    rw [Nat.div_div_eq_div_mul, show m + 1 - 1 - j = (m - 1 - j) + 1 by omega, Nat.pow_succ, Nat.mul_comm]
  · simp
theorem beV_be (m : Nat) : ∀ x, x < 256 ^ m → beV (OutP.be m x) = x := by
  induction m with
  | zero => intro x hx; simp at hx; subst hx; rfl
  | succ m ih =>
    intro x hx
    have h := ih (x / 256) (Nat.div_lt_of_lt_mul (by rw [Nat.pow_succ] at hx; omega))
    rw [be_succ]
    unfold beV at *
    rw [List.foldl_append, h]
    simp
    omega
theorem mid (a x c : List UInt8) (n m : Nat) (ha : a.length = n) (hx : x.length = m) : ((a ++ (x ++ c)).drop n).take m = x := by
  subst ha hx; simp
theorem frBytes_split (gen num term : Nat) (b rest : List UInt8) : OutP.frBytes gen num term b ++ rest = OutP.be 1 165 ++ (OutP.be 4 gen ++ (OutP.be 4 num ++ (OutP.be 4 term ++ (OutP.be 2 b.length ++ (b ++ (OutP.be 4 (OutP.crcN (OutP.frHead gen num term b)) ++ rest)))))) := by
  unfold OutP.frBytes
  conv => lhs; enter [1, 1]; unfold OutP.frHead
  simp only [List.append_assoc]
structure Framed (bs : List UInt8) (gen num term : Nat) (b : List UInt8) : Prop where
  long : b.length + 19 ≤ bs.length
  few : b.length ≤ 1024
  mark : inV bs (8 * 0) 8 = 165
  gen : beV ((bs.drop 1).take 4) = gen
  num : beV ((bs.drop 5).take 4) = num
  term : beV ((bs.drop 9).take 4) = term
  len : inV bs (8 * 13) 16 = b.length
  rec_ : (bs.drop 15).take b.length = b
  crc : beV ((bs.drop (15 + b.length)).take 4) = OutP.crcN (bs.take (15 + b.length))
theorem framed (gen num term : Nat) (hg : gen < 4294967296) (hn : num < 4294967296) (ht : term < 4294967296) (b rest : List UInt8) (hb : b.length ≤ 1024) : Framed (OutP.frBytes gen num term b ++ rest) gen num term b := by
  have hs := frBytes_split gen num term b rest
  have hh : (OutP.frHead gen num term b).length = 15 + b.length := by simp only [OutP.frHead, OutP.be_len, List.length_append]
  have hc := OutP.crcN_lt (OutP.frHead gen num term b)
  generalize hcn : OutP.crcN (OutP.frHead gen num term b) = cn at *
  have hL : (OutP.frBytes gen num term b ++ rest).length = 19 + b.length + rest.length := by rw [hs]; simp [OutP.be_len]; omega
  have e13 : inV (OutP.frBytes gen num term b ++ rest) (8 * 13) (8 * 2) = b.length := by
    rw [inV_bytes _ 13 2 (by rw [hL]; omega), hs]
    have := mid (OutP.be 1 165 ++ OutP.be 4 gen ++ OutP.be 4 num ++ OutP.be 4 term) (OutP.be 2 b.length) (b ++ (OutP.be 4 cn ++ rest)) 13 2 (by simp [OutP.be_len]) (OutP.be_len _ _)
    simp only [List.append_assoc] at this
    rw [this, beV_be 2 _ (by omega)]
  refine ⟨by rw [hL]; omega, hb, ?_, ?_, ?_, ?_, e13, ?_, ?_⟩
  · have := inV_bytes (OutP.frBytes gen num term b ++ rest) 0 1 (by rw [hL]; omega)
    rw [show 8 * 1 = 8 from rfl] at this
    rw [this, hs, List.drop_zero, List.take_append_of_le_length (by simp [OutP.be_len]), List.take_of_length_le (by simp [OutP.be_len]), beV_be 1 _ (by omega)]
  · rw [hs, mid _ _ _ 1 4 (OutP.be_len _ _) (OutP.be_len _ _), beV_be 4 _ (by omega)]
  · have := mid (OutP.be 1 165 ++ OutP.be 4 gen) (OutP.be 4 num) (OutP.be 4 term ++ (OutP.be 2 b.length ++ (b ++ (OutP.be 4 cn ++ rest)))) 5 4 (by simp [OutP.be_len]) (OutP.be_len _ _)
    simp only [List.append_assoc] at this
    rw [hs, this, beV_be 4 _ (by omega)]
  · have := mid (OutP.be 1 165 ++ OutP.be 4 gen ++ OutP.be 4 num) (OutP.be 4 term) (OutP.be 2 b.length ++ (b ++ (OutP.be 4 cn ++ rest))) 9 4 (by simp [OutP.be_len]) (OutP.be_len _ _)
    simp only [List.append_assoc] at this
    rw [hs, this, beV_be 4 _ (by omega)]
  · have := mid (OutP.be 1 165 ++ OutP.be 4 gen ++ OutP.be 4 num ++ OutP.be 4 term ++ OutP.be 2 b.length) b (OutP.be 4 cn ++ rest) 15 b.length (by simp [OutP.be_len]) rfl
    simp only [List.append_assoc] at this
    rw [hs, this]
  · have := mid (OutP.be 1 165 ++ OutP.be 4 gen ++ OutP.be 4 num ++ OutP.be 4 term ++ OutP.be 2 b.length ++ b) (OutP.be 4 cn) rest (15 + b.length) 4 (by simp [OutP.be_len]; omega) (OutP.be_len _ _)
    simp only [List.append_assoc] at this
    have h2 : (OutP.frBytes gen num term b ++ rest).take (15 + b.length) = OutP.frHead gen num term b := by
      unfold OutP.frBytes
      rw [List.append_assoc, List.take_append_of_le_length (by omega), List.take_of_length_le (by omega)]
    rw [h2, hcn, hs, this, beV_be 4 _ (by omega)]
structure PI (w w' : World) (k p q : Nat) (vb : Value) (bs : List UInt8) (a : Nat) : Prop where
  new : New w w'
  res : w'.heap[k]? = some (.cells #[.int .u32 0, .int .u32 0, .int .u32 0, .slice none 0 0] 111 (0, 0))
  rdr : w'.heap[p]? = some (.cells #[.pointer (some ⟨q, 0, none⟩)] 130 (0, 0))
  inp : InAt w' q vb bs a
  hk : w.heap.size ≤ k
  hp : w.heap.size ≤ p
  hq : w.heap.size ≤ q
section
variable {w w' w'' : World} {k p q : Nat} {vb : Value} {bs : List UInt8} {a a' : Nat}
theorem PI.kq (h : PI w w' k p q vb bs a) : k ≠ q := by
  rintro rfl; have := h.res; rw [h.inp.cells] at this; simp at this
theorem PI.pq (h : PI w w' k p q vb bs a) : p ≠ q := by
  rintro rfl; have := h.rdr; rw [h.inp.cells] at this; simp at this
theorem PI.kp (h : PI w w' k p q vb bs a) : k ≠ p := by
  rintro rfl; have := h.rdr; rw [h.res] at this; simp at this
theorem PI.step (h : PI w w' k p q vb bs a) (hi : InAt w'' q vb bs a') (hc : Chg (fun i => i = q) w' w'') : PI w w'' k p q vb bs a' :=
  ⟨h.new.trans hc (fun i hi e => by have := h.hq; omega), (hc.block k (lt_of_block h.res) h.kq).trans h.res, (hc.block p (lt_of_block h.rdr) h.pq).trans h.rdr, hi, h.hk, h.hp, h.hq⟩
theorem PI.alloc (h : PI w w' k p q vb bs a) (o : Obj) : PI w (w'.alloc o) k p q vb bs a :=
  ⟨h.new.alloc o, (Below.heap_alloc w' o k (lt_of_block h.res)).trans h.res, (Below.heap_alloc w' o p (lt_of_block h.rdr)).trans h.rdr, h.inp.alloc o, h.hk, h.hp, h.hq⟩
theorem PI.drew (h : PI w w' k p q vb bs a) : PI w w'.drew k p q vb bs a :=
  ⟨h.new.drewN 1, h.res, h.rdr, h.inp.drewN 1, h.hk, h.hp, h.hq⟩
theorem PI.drewN (h : PI w w' k p q vb bs a) (n : Nat) : PI w (w'.drewN n) k p q vb bs a :=
  ⟨h.new.drewN n, h.res, h.rdr, h.inp.drewN n, h.hk, h.hp, h.hq⟩
theorem PI.one (h : PI w w' k p q vb bs a) : w'.cell? ⟨p, 0, none⟩ = some (.pointer (some ⟨q, 0, none⟩)) := by
  rw [cell_of_row w' p 0 _ _ _ h.rdr]; rfl
theorem PI.word (j : Nat) (h : PI w w' k p q vb bs (8 * j)) (hn : j + 4 ≤ bs.length) : Calls Try.prog 79 #[.agg #[.pointer (some ⟨q, 0, none⟩)]] w' fun e w'' => e = .returned (.int .u32 (beV ((bs.drop j).take 4))) ∧ PI w w'' k p q vb bs (8 * (j + 4)) :=
  (word_t w' q vb bs j h.inp hn).mono fun _ _ ⟨h1, h2, h3⟩ => ⟨h1, h.step h2 h3⟩
end
/-- The same, and a block f for the frame. -/
structure PJ (w w' : World) (k p q f : Nat) (vb : Value) (bs : List UInt8) (a : Nat) : Prop where
  pi : PI w w' k p q vb bs a
  fr : w'.heap[f]? = some (.cells #[.int .u32 0, .int .u32 0, .int .u32 0, .slice none 0 0] 111 (0, 0))
  fk : f ≠ k
  hf : w.heap.size ≤ f
theorem PJ.fq {w w' : World} {k p q f : Nat} {vb : Value} {bs : List UInt8} {a : Nat} (h : PJ w w' k p q f vb bs a) : f ≠ q := by
  rintro rfl; have := h.fr; rw [h.pi.inp.cells] at this; simp at this
theorem PI.made {w w' : World} {k p q : Nat} {vb : Value} {bs : List UInt8} {a : Nat} (h : PI w w' k p q vb bs a) : PJ w (w'.alloc (.cells #[.int .u32 0, .int .u32 0, .int .u32 0, .slice none 0 0] 111)) k p q w'.heap.size vb bs a :=
  ⟨h.alloc _, heap_alloc_new w' _, by have := lt_of_block h.res; omega, h.new.size⟩
theorem PJ.word {w w' : World} {k p q f : Nat} {vb : Value} {bs : List UInt8} (j : Nat) (h : PJ w w' k p q f vb bs (8 * j)) (hn : j + 4 ≤ bs.length) : Calls Try.prog 79 #[.agg #[.pointer (some ⟨q, 0, none⟩)]] w' fun e w'' => e = .returned (.int .u32 (beV ((bs.drop j).take 4))) ∧ PJ w w'' k p q f vb bs (8 * (j + 4)) :=
  (word_t w' q vb bs j h.pi.inp hn).mono fun _ _ ⟨h1, h2, h3⟩ => ⟨h1, h.pi.step h2 h3, (h3.block f (lt_of_block h.fr) h.fq).trans h.fr, h.fk, h.hf⟩
theorem PJ.cells {w w' : World} {k p q f : Nat} {vb : Value} {bs : List UInt8} {a : Nat} (h : PJ w w' k p q f vb bs a) :
    w'.cell? ⟨f, 0, none⟩ = some (.int .u32 0) ∧ w'.cell? ⟨f, 1, none⟩ = some (.int .u32 0) ∧ w'.cell? ⟨f, 2, none⟩ = some (.int .u32 0) ∧ w'.cell? ⟨f, 3, none⟩ = some (.slice none 0 0) ∧ ∀ i, w'.frozen? ⟨f, i, none⟩ = false :=
  ⟨by rw [cell_of_row w' f 0 _ _ _ h.fr]; rfl, by rw [cell_of_row w' f 1 _ _ _ h.fr]; rfl, by rw [cell_of_row w' f 2 _ _ _ h.fr]; rfl, by rw [cell_of_row w' f 3 _ _ _ h.fr]; rfl, fun i => frozen_of_row w' f i _ _ h.fr⟩
theorem InAt.far {w : World} {q : Nat} {vb : Value} {bs : List UInt8} {a : Nat} (h : InAt w q vb bs a) (hb : 0 < bs.length) {f : Nat} {g n t x : Nat} {v : Value} (hf : w.heap[f]? = some (.cells #[.int .u32 g, .int .u32 n, .int .u32 t, v] 111 (0, 0))) (hv : ∀ u : UInt8, v ≠ B u) : f ≠ q ∧ ∀ g, vb.ownBlock = some g → g ≠ f := by
  refine ⟨?_, ?_⟩
  · rintro rfl; rw [h.cells] at hf; simp at hf
  · intro g' hg
    rintro rfl
    obtain ⟨va, vc, rfl, _, _, hcell⟩ := h.rd
    obtain ⟨g2, off, rfl, hv2⟩ := hcell 0 (B bs[0]) (by simp [hb])
    obtain rfl : g2 = g' := by simpa [Value.ownBlock] using hg
    rw [cell_of_row w g2 _ _ _ _ hf] at hv2
    generalize off + 0 = o at hv2
    match o, hv2 with
    | 0, h2 => simp [B] at h2
    | 1, h2 => simp [B] at h2
    | 2, h2 => simp [B] at h2
    | 3, h2 => exact hv bs[0] (by simpa using h2)
    | o + 4, h2 => simp at h2
structure PF (w w' : World) (k p q f : Nat) (g n t : Nat) (v : Value) (vb : Value) (bs : List UInt8) (a : Nat) : Prop where
  pi : PI w w' k p q vb bs a
  fr : w'.heap[f]? = some (.cells #[.int .u32 g, .int .u32 n, .int .u32 t, v] 111 (0, 0))
  fk : f ≠ k
  hf : w.heap.size ≤ f
section
variable {w w' w'' : World} {k p q f g n t : Nat} {v vb : Value} {bs : List UInt8} {a a' : Nat}
theorem PF.fp (h : PF w w' k p q f g n t v vb bs a) : f ≠ p := by
  rintro rfl; have := h.fr; rw [h.pi.rdr] at this; simp at this
theorem PF.step (h : PF w w' k p q f g n t v vb bs a) (hi : InAt w'' q vb bs a') (hc : Chg (fun i => i = q) w' w'') : PF w w'' k p q f g n t v vb bs a' :=
  ⟨h.pi.step hi hc, (hc.block f (lt_of_block h.fr) (fun e => by rw [e] at h; have := h.fr; rw [h.pi.inp.cells] at this; simp at this)).trans h.fr, h.fk, h.hf⟩
theorem PF.set (h : PF w w' k p q f g n t v vb bs a) (hb : 0 < bs.length) (hv : ∀ u : UInt8, v ≠ B u) (i : Nat) (x : Value) (g' n' t' : Nat) (v' : Value) (e : (#[.int .u32 g, .int .u32 n, .int .u32 t, v] : Array Value).setIfInBounds i x = #[.int .u32 g', .int .u32 n', .int .u32 t', v']) : PF w (w'.setCell ⟨f, i, none⟩ x) k p q f g' n' t' v' vb bs a := by
  obtain ⟨f1, f2⟩ := h.pi.inp.far hb (x := 0) h.fr hv
  refine ⟨⟨h.pi.new.setCell (p := ⟨f, i, none⟩) (fun hlt => by have := h.hf; simp at hlt; omega) x, ?_, ?_, ⟨?_, ?_, h.pi.inp.ne, h.pi.inp.few⟩, h.pi.hk, h.pi.hp, h.pi.hq⟩, ?_, h.fk, h.hf⟩
  · rw [heap_setCell_other _ _ _ _ h.fk.symm]; exact h.pi.res
  · rw [heap_setCell_other _ _ _ _ h.fp.symm]; exact h.pi.rdr
  · rw [heap_setCell_other _ _ _ _ f1.symm]; exact h.pi.inp.cells
  · exact h.pi.inp.rd.move fun g hg _ => heap_setCell_other _ _ _ _ (f2 g hg)
  · rw [heap_setCell_same w' f i _ 111 x h.fr, e]
theorem PF.cells (h : PF w w' k p q f g n t v vb bs a) :
    w'.cell? ⟨f, 0, none⟩ = some (.int .u32 g) ∧ w'.cell? ⟨f, 1, none⟩ = some (.int .u32 n) ∧ w'.cell? ⟨f, 2, none⟩ = some (.int .u32 t) ∧ w'.cell? ⟨f, 3, none⟩ = some v ∧ ∀ i, w'.frozen? ⟨f, i, none⟩ = false :=
  ⟨by rw [cell_of_row w' f 0 _ _ _ h.fr]; rfl, by rw [cell_of_row w' f 1 _ _ _ h.fr]; rfl, by rw [cell_of_row w' f 2 _ _ _ h.fr]; rfl, by rw [cell_of_row w' f 3 _ _ _ h.fr]; rfl, fun i => frozen_of_row w' f i _ _ h.fr⟩
theorem PF.alloc (h : PF w w' k p q f g n t v vb bs a) (o : Obj) : PF w (w'.alloc o) k p q f g n t v vb bs a :=
  ⟨h.pi.alloc o, (Below.heap_alloc w' o f (lt_of_block h.fr)).trans h.fr, h.fk, h.hf⟩
theorem PF.res (h : PF w w' k p q f g n t v vb bs a) :
    w'.cell? ⟨k, 0, none⟩ = some (.int .u32 0) ∧ w'.cell? ⟨k, 1, none⟩ = some (.int .u32 0) ∧ w'.cell? ⟨k, 2, none⟩ = some (.int .u32 0) ∧ w'.cell? ⟨k, 3, none⟩ = some (.slice none 0 0) ∧ ∀ i, w'.frozen? ⟨k, i, none⟩ = false :=
  ⟨by rw [cell_of_row w' k 0 _ _ _ h.pi.res]; rfl, by rw [cell_of_row w' k 1 _ _ _ h.pi.res]; rfl, by rw [cell_of_row w' k 2 _ _ _ h.pi.res]; rfl, by rw [cell_of_row w' k 3 _ _ _ h.pi.res]; rfl, fun i => frozen_of_row w' k i _ _ h.pi.res⟩
end
theorem PJ.filled {w w' : World} {k p q f : Nat} {vb : Value} {bs : List UInt8} {a : Nat} (h : PJ w w' k p q f vb bs a) (hb : 0 < bs.length) (x y z : Nat) :
    PF w ((((w'.setCell ⟨f, 0, none⟩ (.int .u32 x)).setCell ⟨f, 1, none⟩ (.int .u32 y)).setCell ⟨f, 2, none⟩ (.int .u32 z)).setCell ⟨f, 3, none⟩ (.slice none 0 0)) k p q f x y z (.slice none 0 0) vb bs a := by
  have h0 : PF w w' k p q f 0 0 0 (.slice none 0 0) vb bs a := ⟨h.pi, h.fr, h.fk, h.hf⟩
  have nb : ∀ u : UInt8, Value.slice none 0 0 ≠ B u := fun u e => by cases e
  exact ((((h0.set hb nb 0 (.int .u32 x) x 0 0 _ rfl).set hb nb 1 (.int .u32 y) x y 0 _ rfl).set hb nb 2 (.int .u32 z) x y z _ rfl).set hb nb 3 (.slice none 0 0) x y z _ rfl)
theorem PI.filled {w w' : World} {k p q : Nat} {vb : Value} {bs : List UInt8} {a : Nat} (h : PI w w' k p q vb bs a) (x y z : Nat) :
    PF w (w'.alloc (.cells #[.int .u32 x, .int .u32 y, .int .u32 z, .slice none 0 0] 111)) k p q w'.heap.size x y z (.slice none 0 0) vb bs a :=
  ⟨h.alloc _, heap_alloc_new w' _, by have := lt_of_block h.res; omega, h.new.size⟩
set_option maxHeartbeats 4000000 in
theorem parse1_t (w : World) (v : Value) (bs : List UInt8) (h : Rd w v bs) (hl : bs.length ≤ 1048576) (gen num term : Nat) (b : List UInt8) (hf : Framed bs gen num term b) :
    Calls Try.prog 81 #[v] w fun e w' => ∃ r, e = .returned (.tuple #[.agg #[.int .u32 gen, .int .u32 num, .int .u32 term, r], .bool true]) ∧ w'.ownsRow w.heap.size 5 1 r b.length (b.map B) ∧ New w w' := by
  have HF := hid hf
  have hlong := hf.long
  have hfew := hf.few
  clear hf
  obtain ⟨a, c, hsh⟩ := h.shape
  rw [List.length_map] at hsh
  subst hsh
  have H := hid h
  have HCap : Hid (bs.length ≤ c) := hid (by obtain ⟨_, _, e, h1, _⟩ := h; injection e with _ _ e3; rw [List.length_map] at h1; omega)
  have HR : Hid (∀ w', New w w' → Rd w' (.slice a bs.length c) bs) := hid fun w' n => h.move fun g hg hl => n.block g hl (fun e => e)
  clear h
  go_enter Try.func81, Try.ntmps81
  go_wp2_with fail
  have hw0 := heap_alloc_new w (.cells #[.int .u32 0, .int .u32 0, .int .u32 0, .slice none 0 0] 111)
  have hc0 : Chg (fun _ => False) w _ := (Chg.refl _ w).alloc (.cells #[.int .u32 0, .int .u32 0, .int .u32 0, .slice none 0 0] 111)
  have hr0 := H.out.alloc (.cells #[.int .u32 0, .int .u32 0, .int .u32 0, .slice none 0 0] 111)
  have hz0 := World.size_alloc w (.cells #[.int .u32 0, .int .u32 0, .int .u32 0, .slice none 0 0] 111)
  generalize w.alloc (.cells #[.int .u32 0, .int .u32 0, .int .u32 0, .slice none 0 0] 111) = w0 at *
  obtain ⟨k, hk⟩ : ∃ k, k = w.heap.size := ⟨_, rfl⟩
  rw [← hk] at hw0 hz0 ⊢
  have HW := hid hw0
  have HC := hid hc0
  have HK := hid hk
  have HZ := hid hz0
  clear hw0 hc0 hk hz0
  refine (of_t w0 _ bs hr0 hl).mono ?_
  rintro e w1 ⟨q, vb, rfl, hi, hn, hq1, hq2⟩
  have I1 := hid hi
  have N1 := hid hn
  have Q1 := hid (show k < q by have := HZ.out; omega)
  have Q2 := hid hq2
  clear hi hn hq1 hq2 hr0
  go_wp2_with fail
  have P1 := hid (show PI w (w1.alloc (.cells #[.pointer (some ⟨q, 0, none⟩)] 130)) k w1.heap.size q vb bs 0 from
    ⟨(HC.out.trans N1.out (fun _ _ e => e)).alloc _, (Below.heap_alloc w1 _ k (by have := Q1.out; have := Q2.out; omega)).trans ((N1.out.block k (lt_of_block HW.out) (fun e => e)).trans HW.out),
      heap_alloc_new w1 _, I1.out.alloc _, by have := HK.out; omega, by have := (HC.out.trans N1.out (fun _ _ e => e)).size; omega, by have := Q1.out; have := HK.out; omega⟩)
  clear I1 N1 Q1 Q2
  generalize w1.alloc (.cells #[.pointer (some ⟨q, 0, none⟩)] 130) = w1' at *
  generalize w1.heap.size = p at *
  refine (inBits_t _ q vb bs 0 8 P1.out.inp (by omega) (by omega) (by omega)).mono ?_
  rintro e w2 ⟨rfl, hi, hc⟩
  have hv' : inV bs 0 8 = 165 := HF.out.mark
  rw [hv']
  have P2 := hid (P1.out.step hi hc)
  have hcell := P2.out.one
  clear hi hc hv'
  go_wp2_with fail
  go_cut [5] from 16 to 22 (fun s5 wx => ∃ f, s5 = .pointer (some ⟨f, 0, none⟩) ∧ PF w wx k p q f gen num term (.slice none 0 0) vb bs (8 * 13))
  case first =>
    have one2 := P2.out.one
    have ne2 := World.new_ne w2 _ one2
    have W1 : Hid (∀ w', PI w w' k p q vb bs (0 + 8) → Calls Try.prog 79 #[.agg #[.pointer (some ⟨q, 0, none⟩)]] w' fun e w'' => e = .returned (.int .u32 gen) ∧ PI w w'' k p q vb bs (8 * (1 + 4))) :=
      hid fun w' h => by have := HF.out.gen ▸ PI.word 1 h (by omega); exact this
    have W2 : Hid (∀ w', PI w w' k p q vb bs (8 * (1 + 4)) → Calls Try.prog 79 #[.agg #[.pointer (some ⟨q, 0, none⟩)]] w' fun e w'' => e = .returned (.int .u32 num) ∧ PI w w'' k p q vb bs (8 * (5 + 4))) :=
      hid fun w' h => by have := HF.out.num ▸ PI.word 5 h (by omega); exact this
    have W3 : Hid (∀ w', PI w w' k p q vb bs (8 * (5 + 4)) → Calls Try.prog 79 #[.agg #[.pointer (some ⟨q, 0, none⟩)]] w' fun e w'' => e = .returned (.int .u32 term) ∧ PI w w'' k p q vb bs (8 * (9 + 4))) :=
      hid fun w' h => by have := HF.out.term ▸ PI.word 9 h (by omega); exact this
    have V1 : Hid (∀ f w', PJ w w' k p q f vb bs (0 + 8) → Calls Try.prog 79 #[.agg #[.pointer (some ⟨q, 0, none⟩)]] w' fun e w'' => e = .returned (.int .u32 gen) ∧ PJ w w'' k p q f vb bs (8 * (1 + 4))) :=
      hid fun f w' h => by have := HF.out.gen ▸ PJ.word 1 h (by omega); exact this
    have V2 : Hid (∀ f w', PJ w w' k p q f vb bs (8 * (1 + 4)) → Calls Try.prog 79 #[.agg #[.pointer (some ⟨q, 0, none⟩)]] w' fun e w'' => e = .returned (.int .u32 num) ∧ PJ w w'' k p q f vb bs (8 * (5 + 4))) :=
      hid fun f w' h => by have := HF.out.num ▸ PJ.word 5 h (by omega); exact this
    have V3 : Hid (∀ f w', PJ w w' k p q f vb bs (8 * (5 + 4)) → Calls Try.prog 79 #[.agg #[.pointer (some ⟨q, 0, none⟩)]] w' fun e w'' => e = .returned (.int .u32 term) ∧ PJ w w'' k p q f vb bs (8 * (9 + 4))) :=
      hid fun f w' h => by have := HF.out.term ▸ PJ.word 9 h (by omega); exact this
    go_region_held3 (fun w' => w'.cell? ⟨p, 0, none⟩ = some (.pointer (some ⟨q, 0, none⟩)))
      (go_keep)
      (first
        | (go_at_call 79; refine Calls.mono (W1.out _ (by exact P2.out.drew)) ?_; rintro e w3 ⟨rfl, hh⟩; have one3 := hh.one; have ne3 := World.new_ne w3 _ one3; have P3 := hid hh; clear hh)
        | (go_at_call 79; refine Calls.mono (V1.out w2.heap.size _ (by exact P2.out.drew.made)) ?_; rintro e w3 ⟨rfl, hh⟩; have one3 := hh.pi.one; have F3 := hid hh; clear hh)
        | (go_at_call 79; refine Calls.mono (W2.out _ (by exact P3.out)) ?_; rintro e w4 ⟨rfl, hh⟩; have one4 := hh.one; have ne4 := World.new_ne w4 _ one4; have P4 := hid hh; clear hh)
        | (go_at_call 79; refine Calls.mono (V2.out _ _ (by exact P3.out.made)) ?_; rintro e w4 ⟨rfl, hh⟩; have one4 := hh.pi.one; have F4 := hid hh; clear hh)
        | (go_at_call 79; refine Calls.mono (V2.out _ _ (by exact F3.out)) ?_; rintro e w4 ⟨rfl, hh⟩; have one4 := hh.pi.one; have F4 := hid hh; clear hh)
        | (go_at_call 79; refine Calls.mono (W3.out _ (by exact P4.out)) ?_; rintro e w5 ⟨rfl, hh⟩; have one5 := hh.one; have ne5 := World.new_ne w5 _ one5; have P5 := hid hh; clear hh)
        | (go_at_call 79; refine Calls.mono (V3.out _ _ (by exact P4.out.made)) ?_; rintro e w5 ⟨rfl, hh⟩; have one5 := hh.pi.one; have F5 := hid hh; obtain ⟨d0, d1, d2, d3, df⟩ := hh.cells; clear hh)
        | (go_at_call 79; refine Calls.mono (V3.out _ _ (by exact F4.out)) ?_; rintro e w5 ⟨rfl, hh⟩; have one5 := hh.pi.one; have F5 := hid hh; obtain ⟨d0, d1, d2, d3, df⟩ := hh.cells; clear hh))
    all_goals (go_wp2_with fail; go_meet; refine ⟨_, rfl, ?_⟩)
    · exact P5.out.filled gen num term
    · exact F5.out.filled (by omega) gen num term
    · exact F5.out.filled (by omega) gen num term
    · exact F5.out.filled (by omega) gen num term
  case rest =>
    obtain ⟨f, rfl, hp⟩ := hcut
    have P6 := hid hp
    have o6 := hp.pi.one
    clear hp
    go_wp2_with fail
    refine (inBits_t _ q vb bs (8 * 13) 16 P6.out.pi.inp (by omega) (by omega) (by omega)).mono ?_
    rintro e w7 ⟨rfl, hi, hc⟩
    have hlen := HF.out.len
    rw [hlen]
    have P7 := hid (P6.out.step hi hc)
    have o7 := P7.out.pi.one
    have el : IntKind.i64.wrap (b.length : Int) = b.length := by rw [IntKind.wrap_i64]; omega
    clear hi hc hlen
    go_wp2_with fail
    have e1516 : 8 * 13 + 16 = 8 * 15 := rfl
    refine (inBytes_t w7 q vb bs 15 b.length (e1516 ▸ P7.out.pi.inp) (by omega)).mono ?_
    rintro e w8 ⟨v8, rfl, ho, hi, hc⟩
    have hrec := HF.out.rec_
    rw [hrec] at ho
    obtain ⟨ra, rc, rfl, _⟩ := owns_shape ho
    have P8 := hid (P7.out.step hi hc)
    have O8 := hid ho
    have C78 := hid hc
    obtain ⟨o80, o81, o82, o83, o8f⟩ := P8.out.cells
    have o8 := P8.out.pi.one
    have nfp : f ≠ p := P8.out.fp
    clear hi hc hrec ho
    go_wp2_with fail
    have P9 := hid (P8.out.set (by omega) (fun u e => by cases e) 3 (.slice ra b.length rc) gen num term _ rfl)
    have O9 := hid (show (w8.setCell ⟨f, 3, none⟩ (.slice ra b.length rc)).ownsRow w7.heap.size 5 1 (.slice ra b.length rc) b.length (b.map B) from
      owns_same O8.out (fun g hg => heap_setCell_other _ _ _ _ (fun e => by have h1 := own_base O8.out g hg; have h2 := lt_of_block P7.out.fr; rw [e] at h1; exact absurd h2 (Nat.not_lt.2 h1))))
    clear o80 o81 o82 o83 o8f o8
    generalize w8.setCell ⟨f, 3, none⟩ (.slice ra b.length rc) = w9 at *
    refine (word_t w9 q vb bs (15 + b.length) P9.out.pi.inp (by omega)).mono ?_
    rintro e w10 ⟨rfl, hi, hc⟩
    rw [HF.out.crc]
    have P10 := hid (P9.out.step hi hc)
    have O10 := hid (own_chg O9.out hc (fun i e => by rw [e]; exact lt_of_block P7.out.pi.inp.cells))
    have K10 := hid (lt_of_block P7.out.pi.res)
    have o10 := P10.out.pi.one
    clear hi hc nfp
    have e15 : IntKind.i64.wrap (15 + (b.length : Int)) = ((15 + b.length : Nat) : Int) := by rw [IntKind.wrap_i64]; omega
    have hcap : bs.length ≤ c := HCap.out
    have hR := HR.out w10 P10.out.pi.new
    have HRd := hid (hR.take (15 + b.length) (by omega))
    have hcl := OutP.crcN_lt (bs.take (15 + b.length))
    generalize hbt : bs.take (15 + b.length) = bt at *
    have HBT := hid (show bt.length = 15 + b.length by rw [← hbt, List.length_take]; omega)
    clear hbt hR
    go_wp2_with fail
    refine (err_t w10 q vb bs _ P10.out.pi.inp).mono ?_
    rintro e w11 ⟨rfl, rfl⟩
    go_wp2_with fail
    refine (OutP.crc_t _ _ _ (OutP.rdS_one 22 HRd.out.toP)).mono ?_
    rintro e w12 ⟨rfl, rfl⟩
    rw [show [bt].flatten = bt by simp, OutP.crcN_eq]
    have P11 := hid (P10.out.alloc (.cells #[.slice a (15 + b.length) c] 22))
    have O11 := hid (own_chg O10.out ((Chg.refl (fun _ => False) w10).alloc (.cells #[.slice a (15 + b.length) c] 22)) (fun _ e => e.elim))
    clear HRd o10
    generalize w10.alloc (.cells #[.slice a (15 + b.length) c] 22) = w11 at *
    obtain ⟨d0, d1, d2, d3, df⟩ := P11.out.cells
    obtain ⟨r0, r1, r2, r3, rf⟩ := P11.out.res
    go_wp2_with fail
    have fin := heap_setCell_same _ k 3 _ 111 (.slice ra b.length rc) (heap_setCell_same _ k 2 _ 111 (.int .u32 term) (heap_setCell_same _ k 1 _ 111 (.int .u32 num) (heap_setCell_same w11 k 0 _ 111 (.int .u32 gen) P11.out.pi.res)))
    have hk := P11.out.pi.hk
    have hk7 := K10.out
    have hw7 := P7.out.pi.new.size
    refine bodyPost_ret (results_row1 rfl _ _ k 111 #[.int .u32 gen, .int .u32 num, .int .u32 term, .slice ra b.length rc] (0, 0) _ rfl fin Try.underlying111 rfl (by kernel_rfl)) rfl ⟨_, rfl, ?_, ?_⟩
    · refine owns_base (owns_same O11.out (fun g hg => ?_)) hw7
      have h1 := own_base O11.out g hg
      have hne : g ≠ k := by omega
      rw [heap_setCell_other _ _ _ _ hne, heap_setCell_other _ _ _ _ hne, heap_setCell_other _ _ _ _ hne, heap_setCell_other _ _ _ _ hne]
    · exact (((P11.out.pi.new.setCell (p := ⟨k, 0, none⟩) (fun h => by simp at h; omega) _).setCell (p := ⟨k, 1, none⟩) (fun h => by simp at h; omega) _).setCell (p := ⟨k, 2, none⟩) (fun h => by simp at h; omega) _).setCell (p := ⟨k, 3, none⟩) (fun h => by simp at h; omega) _
end Go.Proofs.Ytjlmbmamkhneiaa
