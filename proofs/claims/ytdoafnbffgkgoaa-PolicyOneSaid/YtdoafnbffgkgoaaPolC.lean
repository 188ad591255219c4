/- The walks of who gives way, further. Conditions: none. -/
import Derived.Test.YtdoafnbffgkgoaaPolB
namespace Go.Ev
open Go Go.Proofs
set_option maxRecDepth 10000

def agD (x : Int × Int) : Value := .agg #[.int .i64 x.1, .int .i64 x.2]
/-- Who gives way. -/
def yOf (p : Int) (me : Int × Int) (l : List (Int × Int)) : Bool :=
  if l = [] then true else if p = 0 then l.any (fun x => decide (x.1 ≤ me.1)) else if p = 2 then false else if p = 3 then decide (me.2 ≤ sumW l) else true

theorem any_of_at {l : List (Int × Int)} {f : Int × Int → Bool} {k : Nat} (hk : k < l.length) (h : f l[k] = true) : l.any f = true := List.any_eq_true.2 ⟨l[k], List.getElem_mem hk, h⟩
theorem any_none {l : List (Int × Int)} {f : Int × Int → Bool} (hno : ∀ i x, i < l.length → l[i]? = some x → f x = false) : l.any f = false := by
  rw [List.any_eq_false]
  intro x hx
  obtain ⟨i, hi⟩ := List.getElem?_of_mem hx
  have := hno i x (List.getElem?_eq_some_iff.1 hi).1 hi
  simp [this]
theorem no_next {l : List (Int × Int)} {f : Int × Int → Bool} {k : Nat} (hk : k < l.length) (hno : ∀ i x, i < k → l[i]? = some x → f x = false) (h : f l[k] = false) : ∀ i x, i < k + 1 → l[i]? = some x → f x = false := by
  intro i x hi hx
  by_cases hik : i = k
  · subst hik
    rw [List.getElem?_eq_getElem hk] at hx
    rw [← Option.some.inj hx]; exact h
  · exact hno i x (by omega) hx

theorem refYields_any (p : Int) (me : Int × Int) {a : Option Addr} {c : Nat} {l : List (Int × Int)} (hl : l.length ≤ 4294967296) : ∀ β w As, Sat β w As → Rds β As 2 encD a l →
    Calls Try.prog 7 #[.int .i64 p, agD me, .slice a l.length c] w fun e w' => e = .returned (.bool (yOf p me l)) ∧ Sat β w' As := by
  intro β w As h hr
  refine calls_W (args := [.int .i64 p, agD me, .slice a l.length c]) Try.func7 rfl rfl rfl ?_
  conv => whnf
  repeat (first | (refine CW.run rfl ?_; conv => whnf) | (refine CW.go ?_; conv => whnf))
  refine h.newK fun b w h => ?_
  conv => whnf
  repeat (first | (refine CW.run rfl ?_; conv => whnf) | (refine CW.go ?_; conv => whnf))
  have e0 : ∀ b : Bool, (l = [] ∨ p < 0 ∨ 3 < p) → b = true → b = yOf p me l := by
    rintro b hh rfl
    unfold yOf
    rcases hh with hh | hh | hh
    · rw [if_pos hh]
    · by_cases h0 : l = []
      · rw [if_pos h0]
      · rw [if_neg h0, if_neg (by omega), if_neg (by omega), if_neg (by omega)]
    · by_cases h0 : l = []
      · rw [if_pos h0]
      · rw [if_neg h0, if_neg (by omega), if_neg (by omega), if_neg (by omega)]
  refine sel_mk (fun h1 => ?_) (fun h1 => ?_)
  · conv => whnf
    repeat (first | (refine CW.run rfl ?_; conv => whnf) | (refine CW.go ?_; conv => whnf))
    exact ⟨retB (e0 _ (by simp at h1; omega) rfl), h.tail⟩
  simp only [decide_eq_false_iff_not] at h1
  conv => whnf
  repeat (first | (refine CW.run rfl ?_; conv => whnf) | (refine CW.go ?_; conv => whnf))
  refine sel_mk (fun h2 => ?_) (fun h2 => ?_)
  · conv => whnf
    repeat (first | (refine CW.run rfl ?_; conv => whnf) | (refine CW.go ?_; conv => whnf))
    exact ⟨retB (e0 _ (by simp at h2; omega) rfl), h.tail⟩
  simp only [decide_eq_false_iff_not] at h2
  conv => whnf
  repeat (first | (refine CW.run rfl ?_; conv => whnf) | (refine CW.go ?_; conv => whnf))
  refine sel_mk (fun h3 => ?_) (fun h3 => ?_)
  · conv => whnf
    repeat (first | (refine CW.run rfl ?_; conv => whnf) | (refine CW.go ?_; conv => whnf))
    exact ⟨retB (e0 _ (by simp at h3; exact .inl h3) rfl), h.tail⟩
  have hne : l ≠ [] := by simpa using h3
  conv => whnf
  repeat (first | (refine CW.run rfl ?_; conv => whnf) | (refine CW.go ?_; conv => whnf))
  refine sel_mk (fun h4 => ?_) (fun h4 => ?_)
  · obtain rfl : p = 0 := by simpa using h4
    conv => whnf
    repeat (first | (refine CW.run rfl ?_; conv => whnf) | (refine CW.go ?_; conv => whnf))
    refine CW.loop [0, 2, 4, 7] (fun m vs w => ∃ k : Nat, k ≤ l.length ∧ m = l.length - k ∧ vs = [.int .i64 0, .slice a l.length c, .pointer (some ⟨b, 0, none⟩), .int .i64 k] ∧ Sat β w (row b 28 [.int .i64 me.1, .int .i64 me.2] :: As) ∧ ∀ i x, i < k → l[i]? = some x → decide (x.1 ≤ me.1) = false) ?_ ?_
    · conv => whnf
      repeat (first | (refine CW.run rfl ?_; conv => whnf) | (refine CW.go ?_; conv => whnf))
      exact ⟨_, 0, Nat.zero_le _, rfl, rfl, h, fun i _ hi => absurd hi (Nat.not_lt_zero _)⟩
    · rintro m _ w ⟨k, hk, rfl, rfl, h, hno⟩
      conv => whnf
      repeat (first | (refine CW.run rfl ?_; conv => whnf) | (refine CW.go ?_; conv => whnf))
      refine sel_mk (fun h1 => ?_) (fun h1 => ?_)
      · have hlt : k < l.length := by simpa using h1
        have hx := List.getElem?_eq_getElem hlt
        conv => whnf
        repeat (first | (refine CW.run rfl ?_; conv => whnf) | (refine CW.go ?_; conv => whnf))
        refine CW.draw [(0, 0), (1, 4), (2, 0), (3, 0), (4, 0), (5, 0), (6, 4), (7, 0)] rfl (by kernel_rfl) (fun _ => True) (fun w e1 e2 e3 e4 => ⟨trivial, ?_⟩)
        replace h := h.draw e1 e2 e3 e4
        clear e1 e2 e3 e4
        conv => whnf
        repeat (first | (refine CW.run rfl ?_; conv => whnf) | (refine CW.go ?_; conv => whnf))
        refine h.ld 0 rfl rfl ?_
        conv => whnf
        repeat (first | (refine CW.run rfl ?_; conv => whnf) | (refine CW.go ?_; conv => whnf))
        refine Chk.mk ⟨by omega, by omega, hr.okLt hlt⟩ ?_
        conv => whnf
        repeat (first | (refine CW.run rfl ?_; conv => whnf) | (refine CW.go ?_; conv => whnf))
        refine hr.ld (i := k) (j := 0) h.tail hx (by decide) rfl (by simp) ?_
        conv => whnf
        repeat (first | (refine CW.run rfl ?_; conv => whnf) | (refine CW.go ?_; conv => whnf))
        refine sel_mk (fun h5 => ?_) (fun h5 => ?_)
        · conv => whnf
          repeat (first | (refine CW.run rfl ?_; conv => whnf) | (refine CW.go ?_; conv => whnf))
          refine ⟨retB ?_, h.tail⟩
          rw [yOf, if_neg hne, if_pos rfl, any_of_at hlt h5]
        · conv => whnf
          repeat (first | (refine CW.run rfl ?_; conv => whnf) | (refine CW.go ?_; conv => whnf))
          refine ⟨_, ?_, k + 1, hlt, rfl, ?_, h, no_next hlt hno h5⟩
          · omega
          · rw [wr64 (by omega) (by omega)]; rfl
      · have hlt : k = l.length := by simp at h1; omega
        subst hlt
        conv => whnf
        repeat (first | (refine CW.run rfl ?_; conv => whnf) | (refine CW.go ?_; conv => whnf))
        refine ⟨retB ?_, h.tail⟩
        rw [yOf, if_neg hne, if_pos rfl, any_none hno]
  have h4 : p ≠ 0 := by simpa using h4
  conv => whnf
  repeat (first | (refine CW.run rfl ?_; conv => whnf) | (refine CW.go ?_; conv => whnf))
  refine sel_mk (fun h5 => ?_) (fun h5 => ?_)
  · conv => whnf
    repeat (first | (refine CW.run rfl ?_; conv => whnf) | (refine CW.go ?_; conv => whnf))
    refine ⟨retB ?_, h.tail⟩
    simp at h5
    rw [yOf, if_neg hne, if_neg h4, if_neg (by omega), if_neg (by omega)]
  have h5 : p ≠ 1 := by simpa using h5
  conv => whnf
  repeat (first | (refine CW.run rfl ?_; conv => whnf) | (refine CW.go ?_; conv => whnf))
  refine sel_mk (fun h6 => ?_) (fun h6 => ?_)
  · conv => whnf
    repeat (first | (refine CW.run rfl ?_; conv => whnf) | (refine CW.go ?_; conv => whnf))
    refine ⟨retB ?_, h.tail⟩
    simp at h6
    rw [yOf, if_neg hne, if_neg h4, if_pos (by omega)]
  have h6 : p ≠ 2 := by simpa using h6
  conv => whnf
  repeat (first | (refine CW.run rfl ?_; conv => whnf) | (refine CW.go ?_; conv => whnf))
  refine CW.loop [2, 4, 8, 9] (fun m vs w => ∃ k : Nat, k ≤ l.length ∧ m = l.length - k ∧ vs = [.slice a l.length c, .pointer (some ⟨b, 0, none⟩), .int .i64 (sumW (l.take k)), .int .i64 k] ∧ Sat β w (row b 28 [.int .i64 me.1, .int .i64 me.2] :: As)) ?_ ?_
  · conv => whnf
    repeat (first | (refine CW.run rfl ?_; conv => whnf) | (refine CW.go ?_; conv => whnf))
    exact ⟨_, 0, Nat.zero_le _, rfl, rfl, h⟩
  · rintro m _ w ⟨k, hk, rfl, rfl, h⟩
    conv => whnf
    repeat (first | (refine CW.run rfl ?_; conv => whnf) | (refine CW.go ?_; conv => whnf))
    refine sel_mk (fun h1 => ?_) (fun h1 => ?_)
    · have hlt : k < l.length := by simpa using h1
      have hx := List.getElem?_eq_getElem hlt
      conv => whnf
      repeat (first | (refine CW.run rfl ?_; conv => whnf) | (refine CW.go ?_; conv => whnf))
      refine Chk.mk ⟨by omega, by omega, hr.okLt hlt⟩ ?_
      conv => whnf
      repeat (first | (refine CW.run rfl ?_; conv => whnf) | (refine CW.go ?_; conv => whnf))
      refine hr.ld (i := k) (j := 1) h.tail hx (by decide) rfl (by simp) ?_
      conv => whnf
      repeat (first | (refine CW.run rfl ?_; conv => whnf) | (refine CW.go ?_; conv => whnf))
      refine ⟨_, ?_, k + 1, hlt, rfl, ?_, h⟩
      · omega
      · rw [wr64 (n := ↑k + 1) (by omega) (by omega), sumW_take hlt]; rfl
    · have hlt : k = l.length := by simp at h1; omega
      subst hlt
      rw [List.take_length]
      conv => whnf
      repeat (first | (refine CW.run rfl ?_; conv => whnf) | (refine CW.go ?_; conv => whnf))
      refine h.ld 0 rfl rfl ?_
      conv => whnf
      repeat (first | (refine CW.run rfl ?_; conv => whnf) | (refine CW.go ?_; conv => whnf))
      refine ⟨retB ?_, h.tail⟩
      rw [yOf, if_neg hne, if_neg h4, if_neg h6, if_pos (by omega)]

theorem lit1_any (x : Int × Int) {b : Nat} {T : TypeId} {me : Int × Int} : ∀ β w As, Sat β w (row b T [.int .i64 me.1, .int .i64 me.2] :: As) →
    Calls Try.prog 17 #[agD x, .pointer (some ⟨b, 0, none⟩)] w fun e w' => e = .returned (.bool (decide (x.1 ≤ me.1))) ∧ Sat β w' (row b T [.int .i64 me.1, .int .i64 me.2] :: As) := by
  intro β w As h
  refine calls_W (args := [agD x, .pointer (some ⟨b, 0, none⟩)]) Try.func17 rfl rfl rfl ?_
  conv => whnf
  repeat (first | (refine CW.run rfl ?_; conv => whnf) | (refine CW.go ?_; conv => whnf))
  refine h.newK fun b w h => ?_
  conv => whnf
  repeat (first | (refine CW.run rfl ?_; conv => whnf) | (refine CW.go ?_; conv => whnf))
  refine h.ld 1 rfl rfl ?_
  conv => whnf
  repeat (first | (refine CW.run rfl ?_; conv => whnf) | (refine CW.go ?_; conv => whnf))
  refine h.ld 0 rfl rfl ?_
  conv => whnf
  repeat (first | (refine CW.run rfl ?_; conv => whnf) | (refine CW.go ?_; conv => whnf))
  exact ⟨rfl, h.tail⟩

def fIdx (l : List (Int × Int)) (f : Int × Int → Bool) : Int := match l.findIdx? f with | some i => i | none => -1
theorem indexFunc_any {a : Option Addr} {c g : Nat} {cv : Value} {l : List (Int × Int)} (f : Int × Int → Bool) (hl : l.length ≤ 4294967296) (β : World) (As : List Asrt) (hr : Rds β As 2 encD a l)
    (hc : ∀ args w, (callFunc g args).run Try.prog w = .ok (.enter g args) w) (hf : ∀ x w, Sat β w As → Calls Try.prog g #[agD x, cv] w fun e w' => e = .returned (.bool (f x)) ∧ Sat β w' As) (w : World) (h : Sat β w As) :
    Calls Try.prog 20 #[.slice a l.length c, .func (.func g) #[] #[cv]] w fun e w' => e = .returned (.int .i64 (fIdx l f)) ∧ Sat β w' As := by
  refine calls_W (args := [.slice a l.length c, .func (.func g) #[] #[cv]]) Try.func20 rfl rfl rfl ?_
  conv => whnf
  repeat (first | (refine CW.run rfl ?_; conv => whnf) | (refine CW.go ?_; conv => whnf))
  refine CW.loop [0, 1, 7, 8] (fun m vs w => ∃ k : Nat, k ≤ l.length ∧ m = l.length - k ∧ vs = [.slice a l.length c, .func (.func g) #[] #[cv], .int .i64 l.length, .int .i64 k] ∧ Sat β w As ∧ ∀ i x, i < k → l[i]? = some x → f x = false) ?_ ?_
  · conv => whnf
    repeat (first | (refine CW.run rfl ?_; conv => whnf) | (refine CW.go ?_; conv => whnf))
    exact ⟨_, 0, Nat.zero_le _, rfl, rfl, h, fun i _ hi => absurd hi (Nat.not_lt_zero _)⟩
  · rintro m _ w ⟨k, hk, rfl, rfl, h, hno⟩
    conv => whnf
    repeat (first | (refine CW.run rfl ?_; conv => whnf) | (refine CW.go ?_; conv => whnf))
    refine sel_mk (fun h1 => ?_) (fun h1 => ?_)
    · have hlt : k < l.length := by simpa using h1
      conv => whnf
      repeat (first | (refine CW.run rfl ?_; conv => whnf) | (refine CW.go ?_; conv => whnf))
      refine Chk.mk ⟨by omega, by omega, hr.okLt hlt⟩ ?_
      conv => whnf
      repeat (first | (refine CW.run rfl ?_; conv => whnf) | (refine CW.go ?_; conv => whnf))
      refine hr.ldN (i := k) h (List.getElem?_eq_getElem hlt) rfl (by simp) ?_
      conv => whnf
      repeat (first | (refine CW.run rfl ?_; conv => whnf) | (refine CW.go ?_; conv => whnf))
      refine CallF.val (hf l[k] w h) (hc _ _) fun w h => ?_
      conv => whnf
      repeat (first | (refine CW.run rfl ?_; conv => whnf) | (refine CW.go ?_; conv => whnf))
      refine sel_mk (fun h2 => ?_) (fun h2 => ?_)
      · conv => whnf
        repeat (first | (refine CW.run rfl ?_; conv => whnf) | (refine CW.go ?_; conv => whnf))
        refine ⟨retI ?_, h⟩
        unfold fIdx
        rw [(List.findIdx?_eq_some_iff_getElem (i := k)).2 ⟨hlt, h2, fun j hj => by
          have := hno j l[j] hj (List.getElem?_eq_getElem (by omega))
          simp [this]⟩]
      · conv => whnf
        repeat (first | (refine CW.run rfl ?_; conv => whnf) | (refine CW.go ?_; conv => whnf))
        refine ⟨_, ?_, k + 1, hlt, rfl, ?_, h, no_next hlt hno h2⟩
        · omega
        · rw [wr64 (by omega) (by omega)]; rfl
    · have hlt : k = l.length := by simp at h1; omega
      subst hlt
      conv => whnf
      repeat (first | (refine CW.run rfl ?_; conv => whnf) | (refine CW.go ?_; conv => whnf))
      refine ⟨retI ?_, h⟩
      unfold fIdx
      rw [List.findIdx?_eq_none_iff.2 (fun x hx => by
        obtain ⟨i, hi⟩ := List.getElem?_of_mem hx
        exact hno i x (List.getElem?_eq_some_iff.1 hi).1 hi)]
theorem fIdx_any (l : List (Int × Int)) (f : Int × Int → Bool) : decide (0 ≤ fIdx l f) = l.any f := by
  unfold fIdx
  cases h : l.findIdx? f with
  | none =>
    have := List.findIdx?_eq_none_iff.1 h
    have h2 : l.any f = false := by rw [List.any_eq_false]; intro x hx; simp [this x hx]
    rw [h2]; rfl
  | some i =>
    obtain ⟨hi, h1, _⟩ := List.findIdx?_eq_some_iff_getElem.1 h
    rw [any_of_at hi h1]; simp

theorem containsFunc_any {a : Option Addr} {c g : Nat} {cv : Value} {l : List (Int × Int)} (f : Int × Int → Bool) (hl : l.length ≤ 4294967296) (β : World) (As : List Asrt) (hr : Rds β As 2 encD a l)
    (hc : ∀ args w, (callFunc g args).run Try.prog w = .ok (.enter g args) w) (hf : ∀ x w, Sat β w As → Calls Try.prog g #[agD x, cv] w fun e w' => e = .returned (.bool (f x)) ∧ Sat β w' As) (w : World) (h : Sat β w As) :
    Calls Try.prog 16 #[.slice a l.length c, .func (.func g) #[] #[cv]] w fun e w' => e = .returned (.bool (l.any f)) ∧ Sat β w' As := by
  refine calls_W (args := [.slice a l.length c, .func (.func g) #[] #[cv]]) Try.func16 rfl rfl rfl ?_
  conv => whnf
  repeat (first | (refine CW.run rfl ?_; conv => whnf) | (refine CW.go ?_; conv => whnf))
  refine CallF.val (indexFunc_any f hl β As hr hc hf w h) (Try.call20 _ _) fun w h => ?_
  conv => whnf
  repeat (first | (refine CW.run rfl ?_; conv => whnf) | (refine CW.go ?_; conv => whnf))
  exact ⟨retB (fIdx_any l f), h⟩

theorem yields_any (p : Int) (me : Int × Int) {a : Option Addr} {c : Nat} {l : List (Int × Int)} (hl : l.length ≤ 4294967296) : ∀ β w As, Sat β w As → Rds β As 2 encD a l →
    Calls Try.prog 9 #[.int .i64 p, agD me, .slice a l.length c] w fun e w' => e = .returned (.bool (yOf p me l)) ∧ Sat β w' As := by
  intro β w As h hr
  refine calls_W (args := [.int .i64 p, agD me, .slice a l.length c]) Try.func9 rfl rfl rfl ?_
  conv => whnf
  repeat (first | (refine CW.run rfl ?_; conv => whnf) | (refine CW.go ?_; conv => whnf))
  refine h.newK fun b w h => ?_
  conv => whnf
  repeat (first | (refine CW.run rfl ?_; conv => whnf) | (refine CW.go ?_; conv => whnf))
  refine sel_mk (fun h3 => ?_) (fun h3 => ?_)
  · conv => whnf
    repeat (first | (refine CW.run rfl ?_; conv => whnf) | (refine CW.go ?_; conv => whnf))
    refine ⟨retB ?_, h.tail⟩
    rw [yOf, if_pos (by simpa using h3)]
  have hne : l ≠ [] := by simpa using h3
  conv => whnf
  repeat (first | (refine CW.run rfl ?_; conv => whnf) | (refine CW.go ?_; conv => whnf))
  refine sel_mk (fun h4 => ?_) (fun h4 => ?_)
  · obtain rfl : p = 0 := by simpa using h4
    conv => whnf
    repeat (first | (refine CW.run rfl ?_; conv => whnf) | (refine CW.go ?_; conv => whnf))
    refine CallF.val (containsFunc_any (fun x => decide (x.1 ≤ me.1)) hl β _ hr.cons (fun _ _ => Try.call17 _ _) (fun x w h => lit1_any x β w As h) w h) (Try.call16 _ _) fun w h => ?_
    conv => whnf
    repeat (first | (refine CW.run rfl ?_; conv => whnf) | (refine CW.go ?_; conv => whnf))
    refine ⟨retB ?_, h.tail⟩
    rw [yOf, if_neg hne, if_pos rfl]
  have h4 : p ≠ 0 := by simpa using h4
  conv => whnf
  repeat (first | (refine CW.run rfl ?_; conv => whnf) | (refine CW.go ?_; conv => whnf))
  refine sel_mk (fun h6 => ?_) (fun h6 => ?_)
  · conv => whnf
    repeat (first | (refine CW.run rfl ?_; conv => whnf) | (refine CW.go ?_; conv => whnf))
    refine ⟨retB ?_, h.tail⟩
    simp at h6
    rw [yOf, if_neg hne, if_neg h4, if_pos (by omega)]
  have h6 : p ≠ 2 := by simpa using h6
  conv => whnf
  repeat (first | (refine CW.run rfl ?_; conv => whnf) | (refine CW.go ?_; conv => whnf))
  refine sel_mk (fun h7 => ?_) (fun h7 => ?_)
  · obtain rfl : p = 3 := by simpa using h7
    conv => whnf
    repeat (first | (refine CW.run rfl ?_; conv => whnf) | (refine CW.go ?_; conv => whnf))
    refine CW.loop [2, 4, 7, 23, 24, 25] (fun m vs w => ∃ k : Nat, k ≤ l.length ∧ m = l.length - k ∧ vs = [.slice a l.length c, .pointer (some ⟨b, 0, none⟩), .int .i64 (sumW (l.take k)), .slice a l.length c, .int .i64 l.length, .int .i64 k] ∧ Sat β w (row b 26 [.int .i64 me.1, .int .i64 me.2] :: As)) ?_ ?_
    · conv => whnf
      repeat (first | (refine CW.run rfl ?_; conv => whnf) | (refine CW.go ?_; conv => whnf))
      exact ⟨_, 0, Nat.zero_le _, rfl, rfl, h⟩
    · rintro m _ w ⟨k, hk, rfl, rfl, h⟩
      conv => whnf
      repeat (first | (refine CW.run rfl ?_; conv => whnf) | (refine CW.go ?_; conv => whnf))
      refine sel_mk (fun h1 => ?_) (fun h1 => ?_)
      · have hlt : k < l.length := by simpa using h1
        have hx := List.getElem?_eq_getElem hlt
        conv => whnf
        repeat (first | (refine CW.run rfl ?_; conv => whnf) | (refine CW.go ?_; conv => whnf))
        refine Chk.mk ⟨by omega, by omega, hr.okLt hlt⟩ ?_
        conv => whnf
        repeat (first | (refine CW.run rfl ?_; conv => whnf) | (refine CW.go ?_; conv => whnf))
        refine hr.ldN (i := k) h.tail hx rfl (by simp) ?_
        conv => whnf
        repeat (first | (refine CW.run rfl ?_; conv => whnf) | (refine CW.go ?_; conv => whnf))
        refine h.newK fun b w h => ?_
        conv => whnf
        repeat (first | (refine CW.run rfl ?_; conv => whnf) | (refine CW.go ?_; conv => whnf))
        refine h.store 0 rfl rfl rfl rfl rfl ?_
        conv => whnf
        repeat (refine CW.run rfl ?_; conv => whnf)
        intro w h
        conv => whnf
        repeat (first | (refine CW.run rfl ?_; conv => whnf) | (refine CW.go ?_; conv => whnf))
        refine h.ld 0 rfl rfl ?_
        conv => whnf
        repeat (first | (refine CW.run rfl ?_; conv => whnf) | (refine CW.go ?_; conv => whnf))
        refine ⟨_, ?_, k + 1, hlt, rfl, ?_, h.tail⟩
        · omega
        · rw [wr64 (n := ↑k + 1) (by omega) (by omega), sumW_take hlt]; rfl
      · have hlt : k = l.length := by simp at h1; omega
        subst hlt
        rw [List.take_length]
        conv => whnf
        repeat (first | (refine CW.run rfl ?_; conv => whnf) | (refine CW.go ?_; conv => whnf))
        refine h.ld 0 rfl rfl ?_
        conv => whnf
        repeat (first | (refine CW.run rfl ?_; conv => whnf) | (refine CW.go ?_; conv => whnf))
        refine ⟨retB ?_, h.tail⟩
        rw [yOf, if_neg hne, if_neg h4, if_neg h6, if_pos (by omega)]
  have h7 : p ≠ 3 := by simpa using h7
  conv => whnf
  repeat (first | (refine CW.run rfl ?_; conv => whnf) | (refine CW.go ?_; conv => whnf))
  refine ⟨retB ?_, h.tail⟩
  rw [yOf, if_neg hne, if_neg h4, if_neg h6, if_neg h7]
end Go.Ev
