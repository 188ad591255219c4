/- The three laws' walks. Conditions: none. -/
import Derived.Test.YtdoafnbffgkgoaaPolD
namespace Go.Ev
open Go Go.Proofs
set_option maxRecDepth 10000

/-- Which name it is, the last one that fits (they are all unlike). -/
def kOf (s : ByteArray) : Nat → Int
  | 0 => -1
  | k + 1 => if seq (S4'.getD k S1) s then k else kOf s k
theorem seq_iff (a b : ByteArray) : seq a b = true ↔ a.toList = b.toList := by unfold seq; simp
theorem seq_comm (a b : ByteArray) : seq a b = seq b a := by
  rw [Bool.eq_iff_iff, seq_iff, seq_iff]; exact eq_comm
theorem nq12 : seq S1 S2 = false := by decide +kernel
theorem nq13 : seq S1 S3 = false := by decide +kernel
theorem nq14 : seq S1 S4 = false := by decide +kernel
theorem nq23 : seq S2 S3 = false := by decide +kernel
theorem nq24 : seq S2 S4 = false := by decide +kernel
theorem nq34 : seq S3 S4 = false := by decide +kernel
theorem seq_un {a b s : ByteArray} (h : seq a b = false) (ha : seq a s = true) : seq b s = false := by
  cases hb : seq b s with
  | false => rfl
  | true =>
    have h1 := (seq_iff a s).1 ha
    have h2 := (seq_iff b s).1 hb
    have := (seq_iff a b).2 (h1.trans h2.symm)
    rw [h] at this; cases this
theorem k_idx (s : ByteArray) : kOf s 4 = sIdx S4' s := by
  have c1 := seq_comm S1 s
  have c2 := seq_comm S2 s
  have c3 := seq_comm S3 s
  have c4 := seq_comm S4 s
  unfold sIdx
  simp only [kOf, S4', List.getD_cons_succ, List.getD_cons_zero, List.findIdx?_cons, List.findIdx?_nil, c1, c2, c3, c4]
  cases h1 : seq s S1 with
  | true =>
    have e2 : seq s S2 = false := by rw [← c2]; exact seq_un nq12 (by rw [c1]; exact h1)
    have e3 : seq s S3 = false := by rw [← c3]; exact seq_un nq13 (by rw [c1]; exact h1)
    have e4 : seq s S4 = false := by rw [← c4]; exact seq_un nq14 (by rw [c1]; exact h1)
    simp [e2, e3, e4]
  | false =>
    cases h2 : seq s S2 with
    | true =>
      have e3 : seq s S3 = false := by rw [← c3]; exact seq_un nq23 (by rw [c2]; exact h2)
      have e4 : seq s S4 = false := by rw [← c4]; exact seq_un nq24 (by rw [c2]; exact h2)
      simp [e3, e4]
    | false =>
      cases h3 : seq s S3 with
      | true =>
        have e4 : seq s S4 = false := by rw [← c4]; exact seq_un nq34 (by rw [c3]; exact h3)
        simp [e4]
      | false => cases h4 : seq s S4 <;> simp
theorem kOf_range (s : ByteArray) (k : Nat) : -1 ≤ kOf s k ∧ kOf s k ≤ k := by
  induction k with
  | zero => simp [kOf]
  | succ k ih => simp only [kOf]; split <;> omega

theorem lawNames (p : Int) (s : ByteArray) : Fn Try.prog 4 [.int .i64 p, .string s] (.bool true) := by
  intro β w As h
  refine calls_W (args := [.int .i64 p, .string s]) Try.func4 rfl rfl rfl ?_
  conv => whnf
  repeat (first | (refine CW.run rfl ?_; conv => whnf) | (refine CW.go ?_; conv => whnf))
  refine sel_mk (fun h1 => ?_) (fun h1 => ?_)
  · conv => whnf
    repeat (first | (refine CW.run rfl ?_; conv => whnf) | (refine CW.go ?_; conv => whnf))
    refine alive_any.call h (Try.call6 _ _) fun w h => ?_
    conv => whnf
    repeat (first | (refine CW.run rfl ?_; conv => whnf) | (refine CW.go ?_; conv => whnf))
    exact ⟨rfl, h⟩
  conv => whnf
  repeat (first | (refine CW.run rfl ?_; conv => whnf) | (refine CW.go ?_; conv => whnf))
  refine CallF.ret (refNames β w As h) (Try.call12 _ _) ?_
  rintro _ w ⟨b, rfl, h⟩
  refine ⟨_, rfl, ?_⟩
  conv => whnf
  repeat (refine CW.run rfl ?_; conv => whnf)
  have hr := h.rds 0 rfl
  -- what it wants
  refine CW.join [0, 1, 4, 5, 6] (fun vs w => vs = [.int .i64 p, .string s, .bool false, .slice (some ⟨b, 0, none⟩) 4 4, .string (nameOf p)] ∧ Sat β w (Own 9 1 encS (some ⟨b, 0, none⟩) 4 S4' :: As)) ?_ ?_
  · conv => whnf
    repeat (first | (refine CW.run rfl ?_; conv => whnf) | (refine CW.go ?_; conv => whnf))
    have e0 : ∀ x, ¬ (0 ≤ p ∧ p ≤ 3) → x = (⟨#[]⟩ : ByteArray) → x = nameOf p := by
      rintro x hh rfl
      rw [nameOf, if_neg hh]
    refine sel_mk (fun h2 => ?_) (fun h2 => ?_)
    · simp only [decide_eq_true_eq] at h2
      conv => whnf
      repeat (first | (refine CW.run rfl ?_; conv => whnf) | (refine CW.go ?_; conv => whnf))
      refine sel_mk (fun h3 => ?_) (fun h3 => ?_)
      · simp only [decide_eq_true_eq] at h3
        conv => whnf
        repeat (first | (refine CW.run rfl ?_; conv => whnf) | (refine CW.go ?_; conv => whnf))
        have hlt : p.toNat < S4'.length := by show p.toNat < 4; omega
        refine Chk.mk ⟨by omega, by omega, ⟨_, _, rfl⟩⟩ ?_
        conv => whnf
        repeat (first | (refine CW.run rfl ?_; conv => whnf) | (refine CW.go ?_; conv => whnf))
        refine hr.ld (i := p.toNat) (j := 0) h (List.getElem?_eq_getElem hlt) (by decide) rfl (by simp [off]) ?_
        conv => whnf
        repeat (first | (refine CW.run rfl ?_; conv => whnf) | (refine CW.go ?_; conv => whnf))
        refine ⟨?_, h⟩
        rw [nameOf, if_pos ⟨h2, h3⟩, List.getD_eq_getElem?_getD, List.getElem?_eq_getElem hlt]; rfl
      · simp only [decide_eq_false_iff_not] at h3
        conv => whnf
        repeat (first | (refine CW.run rfl ?_; conv => whnf) | (refine CW.go ?_; conv => whnf))
        exact ⟨by rw [← e0 _ (by omega) rfl], h⟩
    · simp only [decide_eq_false_iff_not] at h2
      conv => whnf
      repeat (first | (refine CW.run rfl ?_; conv => whnf) | (refine CW.go ?_; conv => whnf))
      exact ⟨by rw [← e0 _ (by omega) rfl], h⟩
  rintro _ w ⟨rfl, h⟩
  conv => whnf
  repeat (first | (refine CW.run rfl ?_; conv => whnf) | (refine CW.go ?_; conv => whnf))
  refine CW.loop [0, 1, 4, 5, 6, 7, 8] (fun m vs w => ∃ k : Nat, k ≤ 4 ∧ m = 4 - k ∧ vs = [.int .i64 p, .string s, .bool false, .slice (some ⟨b, 0, none⟩) 4 4, .string (nameOf p), .int .i64 (kOf s k), .int .i64 k] ∧ Sat β w (Own 9 1 encS (some ⟨b, 0, none⟩) 4 S4' :: As)) ?_ ?_
  · conv => whnf
    repeat (first | (refine CW.run rfl ?_; conv => whnf) | (refine CW.go ?_; conv => whnf))
    exact ⟨_, 0, by omega, rfl, rfl, h⟩
  · rintro m _ w ⟨k, hk, rfl, rfl, h⟩
    conv => whnf
    repeat (first | (refine CW.run rfl ?_; conv => whnf) | (refine CW.go ?_; conv => whnf))
    refine sel_mk (fun h2 => ?_) (fun h2 => ?_)
    · have hlt : k < 4 := by simp at h2; omega
      conv => whnf
      repeat (first | (refine CW.run rfl ?_; conv => whnf) | (refine CW.go ?_; conv => whnf))
      have hlt' : k < S4'.length := hlt
      refine Chk.mk ⟨by omega, by omega, ⟨_, _, rfl⟩⟩ ?_
      conv => whnf
      repeat (first | (refine CW.run rfl ?_; conv => whnf) | (refine CW.go ?_; conv => whnf))
      refine hr.ld (i := k) (j := 0) h (List.getElem?_eq_getElem hlt') (by decide) rfl (by simp [off]) ?_
      have hg : S4'[k] = S4'.getD k S1 := by rw [List.getD_eq_getElem?_getD, List.getElem?_eq_getElem hlt']; rfl
      conv => whnf
      repeat (first | (refine CW.run rfl ?_; conv => whnf) | (refine CW.go ?_; conv => whnf))
      refine sel_mk (fun h3 => ?_) (fun h3 => ?_)
      · conv => whnf
        repeat (first | (refine CW.run rfl ?_; conv => whnf) | (refine CW.go ?_; conv => whnf))
        refine ⟨_, ?_, k + 1, hlt, rfl, ?_, h⟩
        · omega
        · rw [hg] at h3
          rw [wr64 (by omega) (by omega), kOf, if_pos h3]; rfl
      · conv => whnf
        repeat (first | (refine CW.run rfl ?_; conv => whnf) | (refine CW.go ?_; conv => whnf))
        refine ⟨_, ?_, k + 1, hlt, rfl, ?_, h⟩
        · omega
        · rw [hg] at h3
          rw [wr64 (by omega) (by omega), kOf, if_neg (by rw [h3]; simp)]; rfl
    · have hk4 : k = 4 := by simp at h2; omega
      subst hk4
      rw [k_idx]
      have hrg := kOf_range s 4
      rw [k_idx] at hrg
      have hp := parse s
      have hn := name_any p
      generalize sIdx S4' s = kk at hrg hp ⊢
      generalize nameOf p = nm at hn h ⊢
      by_cases hi : 0 ≤ kk
      · rw [if_pos hi] at hp
        have d1 : decide (0 ≤ kk) = true := by simpa using hi
        conv => whnf
        repeat (first | (refine CW.run rfl ?_; conv => whnf) | (refine CW.go ?_; conv => whnf))
        refine hp.call h (Try.call13 _ _) fun w h => ?_
        conv => whnf
        repeat (first | (refine CW.run rfl ?_; conv => whnf) | (refine CW.go ?_; conv => whnf))
        refine sel_false (by rw [d1]; rfl) ?_
        conv => whnf
        repeat (first | (refine CW.run rfl ?_; conv => whnf) | (refine CW.go ?_; conv => whnf))
        refine sel_true d1 ?_
        conv => whnf
        repeat (first | (refine CW.run rfl ?_; conv => whnf) | (refine CW.go ?_; conv => whnf))
        refine sel_false (by simp) ?_
        conv => whnf
        repeat (first | (refine CW.run rfl ?_; conv => whnf) | (refine CW.go ?_; conv => whnf))
        refine sel_false (by simp; omega) ?_
        conv => whnf
        repeat (first | (refine CW.run rfl ?_; conv => whnf) | (refine CW.go ?_; conv => whnf))
        refine alive_any.call h (Try.call6 _ _) fun w h => ?_
        conv => whnf
        repeat (first | (refine CW.run rfl ?_; conv => whnf) | (refine CW.go ?_; conv => whnf))
        refine (right p).call h (Try.call14 _ _) fun w h => ?_
        conv => whnf
        repeat (first | (refine CW.run rfl ?_; conv => whnf) | (refine CW.go ?_; conv => whnf))
        refine sel_mk (fun h4 => ?_) (fun h4 => ?_)
        all_goals
          conv => whnf
          repeat (first | (refine CW.run rfl ?_; conv => whnf) | (refine CW.go ?_; conv => whnf))
          refine sel_true (by simp at h4 ⊢; omega) ?_
          conv => whnf
          repeat (first | (refine CW.run rfl ?_; conv => whnf) | (refine CW.go ?_; conv => whnf))
          refine hn.call h (Try.call15 _ _) fun w h => ?_
          conv => whnf
          repeat (first | (refine CW.run rfl ?_; conv => whnf) | (refine CW.go ?_; conv => whnf))
          exact ⟨retB (seq_self _), h.tail⟩
      · rw [if_neg hi] at hp
        have d1 : decide (0 ≤ kk) = false := by simpa using hi
        conv => whnf
        repeat (first | (refine CW.run rfl ?_; conv => whnf) | (refine CW.go ?_; conv => whnf))
        refine hp.call h (Try.call13 _ _) fun w h => ?_
        conv => whnf
        repeat (first | (refine CW.run rfl ?_; conv => whnf) | (refine CW.go ?_; conv => whnf))
        refine sel_false (by rw [d1]; rfl) ?_
        conv => whnf
        repeat (first | (refine CW.run rfl ?_; conv => whnf) | (refine CW.go ?_; conv => whnf))
        refine sel_false d1 ?_
        conv => whnf
        repeat (first | (refine CW.run rfl ?_; conv => whnf) | (refine CW.go ?_; conv => whnf))
        refine sel_true (by simp; omega) ?_
        conv => whnf
        repeat (first | (refine CW.run rfl ?_; conv => whnf) | (refine CW.go ?_; conv => whnf))
        refine alive_any.call h (Try.call6 _ _) fun w h => ?_
        conv => whnf
        repeat (first | (refine CW.run rfl ?_; conv => whnf) | (refine CW.go ?_; conv => whnf))
        refine (right p).call h (Try.call14 _ _) fun w h => ?_
        conv => whnf
        repeat (first | (refine CW.run rfl ?_; conv => whnf) | (refine CW.go ?_; conv => whnf))
        refine sel_mk (fun h4 => ?_) (fun h4 => ?_)
        all_goals
          conv => whnf
          repeat (first | (refine CW.run rfl ?_; conv => whnf) | (refine CW.go ?_; conv => whnf))
          refine sel_true (by simp at h4 ⊢; omega) ?_
          conv => whnf
          repeat (first | (refine CW.run rfl ?_; conv => whnf) | (refine CW.go ?_; conv => whnf))
          refine hn.call h (Try.call15 _ _) fun w h => ?_
          conv => whnf
          repeat (first | (refine CW.run rfl ?_; conv => whnf) | (refine CW.go ?_; conv => whnf))
          exact ⟨retB (seq_self _), h.tail⟩
end Go.Ev
