/- Unlike messages that may be have unlike bytes: plain law. -/
import Derived.Test.YtcnfmkhkibfpbaaEnc8
namespace Go.Proofs.Ytcnfmkhkibfpbaa
open Go Go.RowKit
set_option linter.unusedVariables false
theorem be_snoc (m x : Nat) : be (m + 1) x = be m (x / 256) ++ [UInt8.ofNat (x % 256)] := by
  unfold be
  rw [List.range_succ, List.map_append]
  congr 1
  · apply List.map_congr_left
    intro j hj
    have hj' := List.mem_range.1 hj
    have e : m + 1 - 1 - j = (m - 1 - j) + 1 := by omega
    rw [e, Nat.pow_succ, Nat.mul_comm, Nat.div_div_eq_div_mul]
  · simp
theorem be_inj : ∀ (m x y : Nat), x < 256 ^ m → y < 256 ^ m → be m x = be m y → x = y
  | 0, x, y, hx, hy, _ => by simp at hx hy; omega
  | m + 1, x, y, hx, hy, h => by
    rw [be_snoc, be_snoc] at h
    obtain ⟨h1, h2⟩ := List.append_inj' h rfl
    have e := be_inj m (x / 256) (y / 256) (by rw [Nat.pow_succ] at hx; omega) (by rw [Nat.pow_succ] at hy; omega) h1
    simp at h2
    have h3 := congrArg UInt8.toNat h2
    simp at h3
    omega
theorem pc_inj {b : Bool} {l l' r r' : List UInt8} (h : pc b l ++ r = pc b l' ++ r') (hl : l.length = l'.length) : (b = true → l = l') ∧ r = r' := by
  cases b
  · simp [pc] at h; exact ⟨(fun e => (by cases e)), h⟩
  · simp only [pc, if_true] at h
    obtain ⟨h1, h2⟩ := List.append_inj h hl
    exact ⟨fun _ => h1, h2⟩
theorem user_inj {b : Bool} {s s' : ByteArray} {r r' : List UInt8} (hs : s.size < 256) (hs' : s'.size < 256) (h : pc b (be 1 s.size ++ s.data.toList) ++ r = pc b (be 1 s'.size ++ s'.data.toList) ++ r') : (b = true → s = s') ∧ r = r' := by
  cases b
  · simp [pc] at h; exact ⟨(fun e => (by cases e)), h⟩
  · simp only [pc, if_true, List.append_assoc] at h
    obtain ⟨h1, h2⟩ := List.append_inj h (by rw [be_len, be_len])
    have e := be_inj 1 _ _ (by simpa using hs) (by simpa using hs') h1
    have hl : s.data.toList.length = s'.data.toList.length := by rw [Array.length_toList, Array.length_toList]; exact e
    obtain ⟨h3, h4⟩ := List.append_inj h2 hl
    refine ⟨fun _ => ?_, h4⟩
    obtain ⟨d⟩ := s
    obtain ⟨d'⟩ := s'
    have : d = d' := Array.toList_inj.1 h3
    rw [this]
theorem kind_of {kn kn' : Nat} (h1 : kn < 256) (h2 : kn' < 256) {r r' : List UInt8} (h : be 2 20307 ++ (be 1 kn ++ r) = be 2 20307 ++ (be 1 kn' ++ r')) : kn = kn' ∧ r = r' := by
  obtain ⟨_, h⟩ := List.append_inj h rfl
  obtain ⟨h3, h4⟩ := List.append_inj h (by rw [be_len, be_len])
  exact ⟨be_inj 1 _ _ (by simpa using h1) (by simpa using h2) h3, h4⟩
/-- The bytes of a message. -/
def encM (kn xn mcn inn tn : Nat) (s : ByteArray) (nn gn yn : Nat) : List UInt8 :=
  encF (hasB kn 120) (hasB kn 109) (hasB kn 105) (hasB kn 116) (hasB kn 117) (hasB kn 110) (hasB kn 103) (hasB kn 119) kn xn mcn inn tn s nn gn yn
theorem both {b : Bool} {x y : Nat} (h : b = true → x = y) (hx : b = false → (x : Int) = 0) (hy : b = false → (y : Int) = 0) : x = y := by
  cases b
  · have := hx rfl; have := hy rfl; omega
  · exact h rfl
theorem encM_inj {kn xn mcn inn tn : Nat} {s : ByteArray} {nn gn yn : Nat} {kn' xn' mcn' inn' tn' : Nat} {s' : ByteArray} {nn' gn' yn' : Nat} (h : MayOk ⟨kn, xn, mcn, inn, tn, s, nn, gn, yn⟩) (h' : MayOk ⟨kn', xn', mcn', inn', tn', s', nn', gn', yn'⟩)
    (hx : xn < 4294967296) (hi : inn < 4294967296) (hn : nn < 18446744073709551616) (hg : gn < 18446744073709551616) (hx' : xn' < 4294967296) (hi' : inn' < 4294967296) (hn' : nn' < 18446744073709551616) (hg' : gn' < 18446744073709551616)
    (e : encM kn xn mcn inn tn s nn gn yn = encM kn' xn' mcn' inn' tn' s' nn' gn' yn') : kn = kn' ∧ xn = xn' ∧ mcn = mcn' ∧ inn = inn' ∧ tn = tn' ∧ s = s' ∧ nn = nn' ∧ gn = gn' ∧ yn = yn' := by
  have k2 := h.k2
  have k2' := h'.k2
  have m1 := h.m1
  have m1' := h'.m1
  have t1 := h.t1
  have t1' := h'.t1
  have w1 := h.w1
  have w1' := h'.w1
  have s1 := h.short
  have s1' := h'.short
  dsimp only at k2 k2' m1 m1' t1 t1' w1 w1' s1 s1'
  unfold encM encF at e
  simp only [List.append_assoc] at e
  obtain ⟨rfl, e⟩ := kind_of (by omega) (by omega) e
  obtain ⟨ex, e⟩ := pc_inj e (by rw [be_len, be_len])
  obtain ⟨em, e⟩ := pc_inj e (by rw [be_len, be_len])
  obtain ⟨ei, e⟩ := pc_inj e (by rw [be_len, be_len])
  obtain ⟨et, e⟩ := pc_inj e (by rw [be_len, be_len])
  obtain ⟨eu, e⟩ := user_inj (by omega) (by omega) e
  obtain ⟨en, e⟩ := pc_inj e (by rw [be_len, be_len])
  obtain ⟨eg, e⟩ := pc_inj e (by rw [be_len, be_len])
  have e' : pc (hasB kn 119) (be 1 yn) ++ ([] : List UInt8) = pc (hasB kn 119) (be 1 yn') ++ [] := by rw [e]
  obtain ⟨ew, _⟩ := pc_inj e' (by rw [be_len, be_len])
  refine ⟨rfl, both (fun hb => be_inj 4 _ _ (by omega) (by omega) (ex hb)) h.fx h'.fx, both (fun hb => be_inj 6 _ _ (by omega) (by omega) (em hb)) h.fm h'.fm, both (fun hb => be_inj 4 _ _ (by omega) (by omega) (ei hb)) h.fi h'.fi,
    both (fun hb => be_inj 5 _ _ (by omega) (by omega) (et hb)) h.ft h'.ft, ?_, both (fun hb => be_inj 8 _ _ (by omega) (by omega) (en hb)) h.fn h'.fn, both (fun hb => be_inj 8 _ _ (by omega) (by omega) (eg hb)) h.fg h'.fg, both (fun hb => be_inj 1 _ _ (by omega) (by omega) (ew hb)) h.fw h'.fw⟩
  cases hb : hasB kn 117
  · have a1 := h.u0 hb
    have a2 := h'.u0 hb
    dsimp only at a1 a2
    rw [a1, a2]
  · exact eu hb
theorem loop_eq (s : ByteArray) : ∀ (k i : Nat) (r : List UInt8), s.size - i = k → ByteArray.toList.loop s i r = r.reverse ++ s.data.toList.drop i := by
  intro k
  induction k with
  | zero =>
    intro i r h
    have hl : s.data.toList.length = s.size := by rw [Array.length_toList]; rfl
    rw [ByteArray.toList.loop, if_neg (by omega), List.drop_eq_nil_of_le (by omega)]; simp
  | succ k ih =>
    intro i r h
    have hl : s.data.toList.length = s.size := by rw [Array.length_toList]; rfl
    have hi : i < s.data.toList.length := by omega
    rw [ByteArray.toList.loop, if_pos (by omega), ih (i + 1) _ (by omega), List.drop_eq_getElem_cons hi]
    have hg : s.get! i = s.data.toList[i] := by
      have hi' : i < s.data.size := by simpa using hi
      show s.data[i]! = _
      rw [getElem!_pos s.data i hi', Array.getElem_toList]
    simp [hg]
theorem toList_data' (s : ByteArray) : s.toList = s.data.toList := by
  unfold ByteArray.toList
  rw [loop_eq s _ 0 [] rfl]; simp
theorem toList_iff {s t : ByteArray} : s.toList = t.toList ↔ s = t := by
  rw [toList_data', toList_data']
  constructor
  · intro h
    obtain ⟨d⟩ := s
    obtain ⟨d'⟩ := t
    have : d = d' := Array.toList_inj.1 h
    rw [this]
  · intro h; rw [h]
end Go.Proofs.Ytcnfmkhkibfpbaa
