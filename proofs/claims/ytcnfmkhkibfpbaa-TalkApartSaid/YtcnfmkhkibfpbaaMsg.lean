/- A message: what it holds, and when it may be. -/
import Derived.Test.YtcnfmkhkibfpbaaFld
import Derived.Outline
import Derived.Deep.DeepCutAuto
import Derived.Deep.CutBlock
namespace Go.Proofs.Ytcnfmkhkibfpbaa
open Go Go.RowKit
structure MsgS where
  kind : Int
  xid : Int
  mac : Int
  ip : Int
  ticks : Int
  user : ByteArray
  nonce : Int
  tag : Int
  why : Int
/-- Its cells. -/
def msgV (m : MsgS) : Array Value := #[.int .i64 m.kind, .int .u32 m.xid, .int .u64 m.mac, .int .u32 m.ip, .int .i64 m.ticks, .string m.user, .int .u64 m.nonce, .int .u64 m.tag, .int .i64 m.why]
structure MayOk (m : MsgS) : Prop where
  k1 : 1 ≤ m.kind
  k2 : m.kind ≤ 12
  fx : hasB m.kind 120 = false → m.xid = 0
  fm : hasB m.kind 109 = false → m.mac = 0
  fi : hasB m.kind 105 = false → m.ip = 0
  ft : hasB m.kind 116 = false → m.ticks = 0
  fn : hasB m.kind 110 = false → m.nonce = 0
  fg : hasB m.kind 103 = false → m.tag = 0
  fw : hasB m.kind 119 = false → m.why = 0
  u1 : hasB m.kind 117 = true → nameB m.user = true
  u0 : hasB m.kind 117 = false → m.user = ⟨#[]⟩
  m1 : m.mac < 281474976710656
  t0 : 0 ≤ m.ticks
  t1 : m.ticks < 1099511627776
  w0 : 0 ≤ m.why
  w1 : m.why < 256
theorem loop_len (s : ByteArray) : ∀ (k i : Nat) (r : List UInt8), s.size - i = k → (ByteArray.toList.loop s i r).length = r.length + (s.size - i) := by
  intro k
  induction k with
  | zero =>
    intro i r h
    rw [ByteArray.toList.loop, if_neg (by omega)]
    simp; omega
  | succ k ih =>
    intro i r h
    rw [ByteArray.toList.loop, if_pos (by omega), ih (i + 1) _ (by omega)]
    simp; omega
theorem toList_ne {s : ByteArray} (h : ¬ s = ⟨#[]⟩) : s.toList.isEmpty = false := by
  have hl : s.toList.length = s.size := by
    unfold ByteArray.toList
    rw [loop_len s _ 0 [] rfl]; simp
  have hs : s.size ≠ 0 := by
    intro e
    apply h
    obtain ⟨d⟩ := s
    have : d.size = 0 := e
    have : d = #[] := Array.eq_empty_of_size_eq_zero this
    rw [this]
  cases hc : s.toList with
  | nil => rw [hc] at hl; simp at hl; omega
  | cons _ _ => rfl
/-- What the document's May answers. -/
def MayPost (w : World) (m : MsgS) (e : Ending) (w' : World) : Prop := ∃ b, e = .returned (.bool b) ∧ New w w' ∧ (b = true → MayOk m)
theorem acell7 {w : World} {a : Addr} {v : Value} (h : w.cell? a = some v) (o : Obj) : (w.alloc o).cell? a = some v := (World.cell?_of_block (Below.heap_alloc w o a.block (block_lt_of_cell h))).trans h
theorem lt_of_block7 {w : World} {g : Nat} {o : Obj} (h : w.heap[g]? = some o) : g < w.heap.size := (Array.getElem?_eq_some_iff.1 h).1
end Go.Proofs.Ytcnfmkhkibfpbaa
