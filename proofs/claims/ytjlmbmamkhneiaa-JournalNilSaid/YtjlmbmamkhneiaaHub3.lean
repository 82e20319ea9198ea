/- The walks of a hub: New, Tap of a full one, Post, First. -/
import Derived.Test.YtjlmbmamkhneiaaHub2
namespace Go.Proofs.Ytjlmbmamkhneiaa
open Go Go.RowKit Go.Conc
theorem Tap_full {w : World} {h : Nat} {v : Value} {l : List (Nat × Nat)} {H : HubS} (a : HubAt w h v l H) (hge : ¬ H.taps.length < 16) :
    Calls Try.prog 42 #[.pointer (some ⟨h, 0, none⟩)] w fun e w' => e = .returned (.tuple #[I 0, .bool false]) ∧ w = w' := by
  obtain ⟨h0, h1, hf⟩ := cells2 a.cells
  obtain ⟨ad, c, rfl⟩ := a.rd.shape
  have hl : (l.map ptr).length = H.taps.length := by rw [List.length_map, a.len]
  rw [hl] at h0
  have hq : (16 : Int) ≤ H.taps.length := by omega
  clear a
  go_enter Try.func42, Try.ntmps42
  go_wp2
  go_ret2
  exact ⟨rfl, rfl⟩
theorem Tap_nil (w : World) : Calls Try.prog 42 #[.pointer none] w fun e w' => e = .returned (.tuple #[I 0, .bool false]) ∧ w = w' := by
  go_enter Try.func42, Try.ntmps42
  go_wp2
  go_ret2
  exact ⟨rfl, rfl⟩
def roomOf (k : Int) : Nat := (min (max k 1) 1024).toNat
def HubS.new (k : Int) : HubS := ⟨[], roomOf k⟩
theorem new_at (k x : Int) (w : World) (hx : x = min (max k 1) 1024) : HubAt (w.alloc (.cells #[.slice none 0 0, .int .i64 x] 117)) w.heap.size (.slice none 0 0) [] (HubS.new k) ∧ Chg (fun _ => False) w (w.alloc (.cells #[.slice none 0 0, .int .i64 x] 117)) := by
  obtain rfl : x = (roomOf k : Nat) := by unfold roomOf; omega
  refine ⟨⟨heap_alloc_new _ _, World.ownsRow_nil _ _ _ _, rfl, fun i pc t h1 => by simp at h1, fun i j pc pd h1 => by simp at h1, by simp [HubS.new], ?_⟩, (Chg.refl _ _).alloc _⟩
  show roomOf k ≤ 1024; unfold roomOf; omega
theorem New_t (k : Int) (w : World) : Calls Try.prog 41 #[I k] w fun e w' => e = .returned (.pointer (some ⟨w.heap.size, 0, none⟩)) ∧ HubAt w' w.heap.size (.slice none 0 0) [] (HubS.new k) ∧ Chg (fun _ => False) w w' := by
  go_enter Try.func41, Try.ntmps41
  go_wp2
  all_goals go_ret
  all_goals exact ⟨rfl, new_at k _ w (by omega)⟩
theorem hubB_nil {h k : Nat} (e : HubB h (.slice none 0 0) [] k) : k = h := by
  rcases e with e | e | ⟨pc, hm, _⟩
  · exact e
  · cases e
  · simp at hm
def HubS.all (H : HubS) (x : Int) : HubS := { H with taps := H.taps.map (·.tell H.room x) }
def HubS.hit (H : HubS) : Nat := H.taps.countP (·.told H.room)
def HubS.hitTo (H : HubS) (i : Nat) : Nat := (H.taps.take i).countP (·.told H.room)
def HubS.upto (H : HubS) (x : Int) (i : Nat) : HubS := { H with taps := (H.taps.take i).map (·.tell H.room x) ++ H.taps.drop i }
def HubS.after (H : HubS) (xs : List Int) : HubS := xs.foldl HubS.all H
def HubS.hits : HubS → List Int → Nat
  | _, [] => 0
  | H, x :: xs => H.hit + (H.all x).hits xs
def HubS.low (H : HubS) (M : Nat) : Prop := ∀ t ∈ H.taps, t.missed ≤ M
namespace HubS
theorem upto_len (H : HubS) (x : Int) (i : Nat) : (H.upto x i).taps.length = H.taps.length := by simp [upto]; omega
theorem upto_get {H : HubS} (x : Int) {i : Nat} (hi : i < H.taps.length) : (H.upto x i).taps[i]? = some H.taps[i] := by
  simp only [upto]
  rw [List.getElem?_append_right (by simp <;> omega)]
  simp [Nat.min_eq_left (Nat.le_of_lt hi)]
theorem upto_step {H : HubS} {x : Int} {i : Nat} (hi : i < H.taps.length) : (H.upto x i).put i (H.taps[i].tell H.room x) = H.upto x (i + 1) := by
  simp only [upto, put, HubS.mk.injEq, and_true]
  have hz : i - ((H.taps.take i).map (·.tell H.room x)).length = 0 := by simp; omega
  rw [take_snoc hi, List.set_append_right _ _ (by simp <;> omega), hz, List.drop_eq_getElem_cons hi]
  rw [List.map_append, List.append_assoc]
  rfl
theorem upto_zero (H : HubS) (x : Int) : H.upto x 0 = H := by simp [upto]
theorem upto_all (H : HubS) (x : Int) : H.upto x H.taps.length = H.all x := by simp [upto, all]
theorem hitTo_step {H : HubS} {i : Nat} (hi : i < H.taps.length) : H.hitTo (i + 1) = H.hitTo i + if H.taps[i].told H.room = true then 1 else 0 := by
  simp only [hitTo]; rw [take_snoc hi, List.countP_append]; simp [List.countP_cons]
theorem hitTo_le (H : HubS) (i : Nat) : H.hitTo i ≤ i := Nat.le_trans List.countP_le_length (by simp; omega)
theorem hitTo_all (H : HubS) : H.hitTo H.taps.length = H.hit := by simp [hitTo, hit]
theorem hit_le (H : HubS) : H.hit ≤ H.taps.length := List.countP_le_length
theorem after_snoc (H : HubS) (xs : List Int) (x : Int) : H.after (xs ++ [x]) = (H.after xs).all x := by simp [after]
theorem hits_snoc (H : HubS) (xs : List Int) (x : Int) : H.hits (xs ++ [x]) = H.hits xs + (H.after xs).hit := by
  induction xs generalizing H with
  | nil => simp [hits, after]
  | cons y ys ih => simp only [List.cons_append, hits, ih]; simp [after]; omega
theorem all_len (H : HubS) (x : Int) : (H.all x).taps.length = H.taps.length := by simp [all]
theorem after_len (H : HubS) (xs : List Int) : (H.after xs).taps.length = H.taps.length := by
  induction xs generalizing H with
  | nil => rfl
  | cons y ys ih => show ((H.all y).after ys).taps.length = _; rw [ih, all_len]
theorem after_room (H : HubS) (xs : List Int) : (H.after xs).room = H.room := by
  induction xs generalizing H with
  | nil => rfl
  | cons y ys ih => show ((H.all y).after ys).room = _; rw [ih]; rfl
theorem tell_missed (c : Nat) (t : TapS) (x : Int) : (t.tell c x).missed ≤ t.missed + 1 := by
  unfold TapS.tell; split
  · split <;> simp
  · simp
theorem low_all {H : HubS} {M : Nat} (h : H.low M) (x : Int) : (H.all x).low (M + 1) := by
  intro t ht
  simp only [all, List.mem_map] at ht
  obtain ⟨u, hu, rfl⟩ := ht
  exact Nat.le_trans (tell_missed _ _ _) (by have := h u hu; omega)
theorem low_after {H : HubS} {M : Nat} (h : H.low M) (xs : List Int) : (H.after xs).low (M + xs.length) := by
  induction xs generalizing H M with
  | nil => exact h
  | cons y ys ih =>
    have := ih (low_all h y)
    show ((H.all y).after ys).low _
    intro t ht
    have := this t ht
    simp; omega
theorem hits_le (H : HubS) (xs : List Int) : H.hits xs ≤ H.taps.length * xs.length := by
  induction xs generalizing H with
  | nil => simp [hits]
  | cons y ys ih =>
    have := ih (H.all y)
    have h2 := H.hit_le
    rw [all_len] at this
    simp only [hits, List.length_cons, Nat.mul_add]
    omega
end HubS
theorem Post_nil (xv : Value) (w : World) : Calls Try.prog 43 #[.pointer none, xv] w fun e w' => e = .returned (I 0) ∧ w = w' := by
  go_enter Try.func43, Try.ntmps43
  go_wp2
  go_ret
  exact ⟨rfl, rfl⟩
set_option maxHeartbeats 4000000 in
theorem Post_t {w : World} {h : Nat} {v : Value} {l : List (Nat × Nat)} {H : HubS} (a : HubAt w h v l H) (xv : Value) (xs : List Int) (hx : RdI w xv xs) (hxn : xs ≠ [] → ∀ g, xv.ownBlock = some g → ¬ HubB h v l g)
    (M : Nat) (hlow : H.low M) (hM : M + xs.length ≤ 549755813888) :
    Calls Try.prog 43 #[.pointer (some ⟨h, 0, none⟩), xv] w fun e w' => e = .returned (I (H.hits xs)) ∧ HubAt w' h v l (H.after xs) ∧ Chg (HubB h v l) w w' := by
  have A := hid a
  have HX := hid hx
  have HXN := hid hxn
  have HLOW := hid hlow
  obtain ⟨xa, xc, rfl⟩ := hx.shape
  have hxl : (xs.map I).length = xs.length := List.length_map _
  rw [hxl] at HX HXN ⊢
  have hfew := a.few
  obtain ⟨ad, c, rfl⟩ := a.rd.shape
  have hl : (l.map ptr).length = H.taps.length := by rw [List.length_map, a.len]
  rw [hl] at A HXN ⊢
  clear hxl hx hxn hlow
  rw [hl] at a
  clear hl
  clear a
  go_enter Try.func43, Try.ntmps43
  go_wp2
  go_loopw [5, 15] (fun n j wr => ∃ m : Nat, ∃ k : Nat, j = .int .i64 m ∧ m ≤ xs.length ∧ n = .int .i64 k ∧ k = H.hits (xs.take m) ∧ HubAt wr h (.slice ad H.taps.length c) l (H.after (xs.take m)) ∧ Chg (HubB h (.slice ad H.taps.length c) l) w wr) (fun _ j _ => xs.length - (intOf j).toNat)
  case atStart => exact ⟨0, 0, rfl, by omega, rfl, rfl, A.out, Chg.refl _ _⟩
  case round =>
    obtain ⟨m, k, rfl, hm, rfl, hk, ha, hc⟩ := hrel
    have A1 := hid ha
    have C1 := hid hc
    have HK := hid hk
    have hkle := HubS.hits_le H (xs.take m)
    rw [← hk, List.length_take, Nat.min_eq_left hm] at hkle
    have hkle2 : k ≤ 16 * m := Nat.le_trans hkle (Nat.mul_le_mul_right _ hfew)
    clear hkle hk ha hc
    by_cases hlt : m < xs.length
    · obtain ⟨_, _, hsl, _, _, hcell⟩ := HX.out.chg C1.out (fun g hg _ => HXN.out (by rintro rfl; simp at hlt) g hg)
      injection hsl with e1 e2 e3
      clear e2
      subst e1 e3
      obtain ⟨g, off, rfl, hv⟩ := hcell m (I xs[m]) (by rw [List.getElem?_map, List.getElem?_eq_getElem hlt]; rfl)
      obtain ⟨h0, h1, hf⟩ := cells2 A1.out.cells
      have HS := hid (take_snoc hlt)
      have hfew1 := A1.out.few
      have HG := hid (HubS.after_len H (xs.take m))
      have HR := hid (HubS.after_room H (xs.take m))
      have HL := hid (HubS.low_after HLOW.out (xs.take m))
      generalize hG : H.after (xs.take m) = G at *
      have HG2 := hid hG
      generalize hxm : xs[m] = x at *
      have HXM := hid hxm
      clear hG hcell hxm
      go_wp2
      go_loopw [5, 24] (fun n j wt => ∃ i : Nat, ∃ q : Nat, j = .int .i64 i ∧ i ≤ H.taps.length ∧ n = .int .i64 q ∧ q = k + G.hitTo i ∧ HubAt wt h (.slice ad H.taps.length c) l (G.upto x i) ∧ Chg (HubB h (.slice ad H.taps.length c) l) wr wt) (fun _ j _ => H.taps.length - (intOf j).toNat)
      case atStart => exact ⟨0, k, rfl, by omega, rfl, by simp [HubS.hitTo], by rw [HubS.upto_zero]; exact A1.out, Chg.refl _ _⟩
      case round =>
        obtain ⟨i, q, rfl, hi, rfl, hq, ha2, hc2⟩ := hrel
        have A2 := hid ha2
        have C2 := hid hc2
        have HQ := hid hq
        have hqle := G.hitTo_le i
        have hqle2 : q ≤ 16 * m + i := by omega
        clear hqle hq ha2 hc2
        by_cases hli : i < H.taps.length
        · have hiG : i < G.taps.length := by rw [HG.out]; exact hli
          obtain ⟨pc, hpc, ht⟩ := A2.out.at (i := i) (by rw [HubS.upto_len]; exact hiG)
          have hget : (G.upto x i).taps[i]'(by rw [HubS.upto_len]; exact hiG) = G.taps[i] := by
            have := HubS.upto_get x hiG
            rw [List.getElem?_eq_getElem (by rw [HubS.upto_len]; exact hiG)] at this
            exact Option.some.inj this
          rw [hget] at ht
          have hmiss : G.taps[i].missed < 1099511627776 := by
            have := HL.out _ (List.getElem_mem hiG)
            rw [List.length_take] at this
            omega
          have HPC := hid hpc
          have HTT := hid ht
          have HMISS := hid hmiss
          have HST := hid (HubS.hitTo_step hiG)
          have HUP := hid (HubS.upto_step (x := x) hiG)
          obtain ⟨_, _, hsl, _, _, hrow⟩ := A2.out.rd
          injection hsl with e1 e2 e3
          clear e2
          subst e1 e3
          obtain ⟨g2, off2, rfl, hv2⟩ := hrow i (ptr pc) (by rw [List.getElem?_map, hpc]; rfl)
          clear hrow hpc ht hget hmiss
          generalize hT : G.taps[i] = T at *
          clear hT hiG
          go_wp2_with fail
          refine (tell_t pc.1 pc.2 G.room T x _ HTT.out HMISS.out).mono ?_
          rintro e w' ⟨rfl, ht', hc'⟩
          have HP := hid (A2.out.put (by rw [HubS.upto_len, HG.out]; exact hli) HPC.out ht' hc')
          have HC2 := hid (C2.out.trans hc' (fun k _ hk => pc_hub HPC.out k hk))
          clear ht' hc'
          rw [HUP.out] at HP
          cases htold : T.told G.room
          · rw [htold] at HST
            clear htold
            go_wp2
            go_roundw
            case rel => exact ⟨i + 1, q, by go_num, by omega, rfl, by rw [HST.out, HQ.out]; rfl, HP.out, HC2.out⟩
            case measure => simp [intOf]; omega
          · rw [htold] at HST
            clear htold
            go_wp2
            go_roundw
            case rel => exact ⟨i + 1, q + 1, by go_num, by omega, by go_num, by rw [HST.out, HQ.out]; rfl, HP.out, HC2.out⟩
            case measure => simp [intOf]; omega
        · obtain rfl : i = H.taps.length := by omega
          have e1 : G.hitTo H.taps.length = G.hit := by rw [← HG.out]; exact G.hitTo_all
          have e2 : G.upto x H.taps.length = G.all x := by rw [← HG.out]; exact G.upto_all x
          rw [e1] at HQ
          rw [e2] at A2
          clear e1 e2
          go_wp2
          go_roundw
          case measure => simp [intOf]; omega
          refine ⟨m + 1, q, by go_num, by omega, rfl, ?_, ?_, C1.out.trans C2.out (fun _ _ e => e)⟩
          · rw [HS.out, HubS.hits_snoc, HG2.out, HQ.out, HK.out]
          · rw [HS.out, HubS.after_snoc, HG2.out]; exact A2.out
    · obtain rfl : m = xs.length := by omega
      rw [List.take_length] at HK A1
      go_wp2
      go_ret
      exact ⟨by rw [← HK.out]; rfl, A1.out, C1.out⟩
end Go.Proofs.Ytjlmbmamkhneiaa
