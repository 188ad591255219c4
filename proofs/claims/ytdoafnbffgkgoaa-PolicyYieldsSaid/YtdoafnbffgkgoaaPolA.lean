/- The walks of package policy, and of the document's answer. Conditions: none. -/
import Derived.Test.YtdoafnbffgkgoaaProg
import Derived.Test.YtdoafnbffgkgoaaEvU
namespace Go.Ev
open Go Go.Proofs
set_option maxRecDepth 10000

def S1 : ByteArray := ⟨#[101, 108, 100, 101, 114]⟩
def S2 : ByteArray := ⟨#[109, 101, 101, 107]⟩
def S3 : ByteArray := ⟨#[98, 111, 108, 100]⟩
def S4 : ByteArray := ⟨#[116, 104, 114, 105, 102, 116, 121]⟩
def S4' : List ByteArray := [S1, S2, S3, S4]
def encS (s : ByteArray) : List Value := [.string s]
def encD (s : Int × Int) : List Value := [.int .i64 s.1, .int .i64 s.2]

theorem right (p : Int) : Fn Try.prog 14 [.int .i64 p] (.bool (decide (0 ≤ p ∧ p ≤ 3))) := by
  intro β w As h
  refine calls_W Try.func14 rfl rfl rfl ?_
  conv => whnf
  repeat (first | (refine CW.run rfl ?_; conv => whnf) | (refine CW.go ?_; conv => whnf))
  refine sel_mk (fun h1 => ?_) (fun h1 => ?_)
  all_goals
    conv => whnf
    repeat (first | (refine CW.run rfl ?_; conv => whnf) | (refine CW.go ?_; conv => whnf))
    simp only [decide_eq_true_eq, decide_eq_false_iff_not] at h1
    exact ⟨retB (Bool.eq_iff_iff.2 (by simp <;> omega)), h⟩

theorem names : ∀ β w As, Sat β w As → Calls Try.prog 19 #[] w fun e w' => ∃ b, e = .returned (.slice (some ⟨b, 0, none⟩) 4 4) ∧ Sat β w' (Own 9 1 encS (some ⟨b, 0, none⟩) 4 S4' :: As) := by
  intro β w As h
  refine calls_W (args := []) Try.func19 rfl rfl rfl ?_
  conv => whnf
  repeat (first | (refine CW.run rfl ?_; conv => whnf) | (refine CW.go ?_; conv => whnf))
  refine h.newK fun b w h => ?_
  conv => whnf
  repeat (first | (refine CW.run rfl ?_; conv => whnf) | (refine CW.go ?_; conv => whnf))
  exact ⟨b, rfl, h.own_of S4' rfl (fun _ _ => rfl)⟩
theorem refNames : ∀ β w As, Sat β w As → Calls Try.prog 12 #[] w fun e w' => ∃ b, e = .returned (.slice (some ⟨b, 0, none⟩) 4 4) ∧ Sat β w' (Own 9 1 encS (some ⟨b, 0, none⟩) 4 S4' :: As) := by
  intro β w As h
  refine calls_W (args := []) Try.func12 rfl rfl rfl ?_
  conv => whnf
  repeat (first | (refine CW.run rfl ?_; conv => whnf) | (refine CW.go ?_; conv => whnf))
  refine h.newK fun b w h => ?_
  conv => whnf
  repeat (first | (refine CW.run rfl ?_; conv => whnf) | (refine CW.go ?_; conv => whnf))
  exact ⟨b, rfl, h.own_of S4' rfl (fun _ _ => rfl)⟩

def sIdx (l : List ByteArray) (v : ByteArray) : Int := match l.findIdx? (fun x => seq v x) with | some i => i | none => -1
theorem sIdx_some {l : List ByteArray} {v : ByteArray} {k : Nat} (hk : k < l.length) (hno : ∀ i x, i < k → l[i]? = some x → seq v x = false) (h : seq v l[k] = true) : sIdx l v = k := by
  unfold sIdx
  rw [(List.findIdx?_eq_some_iff_getElem (i := k)).2 ⟨hk, h, fun j hj => by
    have := hno j l[j] hj (List.getElem?_eq_getElem (by omega))
    simp [this]⟩]
theorem sIdx_none {l : List ByteArray} {v : ByteArray} (hno : ∀ i x, i < l.length → l[i]? = some x → seq v x = false) : sIdx l v = -1 := by
  unfold sIdx
  rw [List.findIdx?_eq_none_iff.2 (fun x hx => by
    obtain ⟨i, hi⟩ := List.getElem?_of_mem hx
    exact hno i x (List.getElem?_eq_some_iff.1 hi).1 hi)]
theorem index_any {a : Option Addr} {c : Nat} {l : List ByteArray} (v : ByteArray) (hl : l.length ≤ 9223372036854775806) : ∀ β w As, Sat β w As → Rds β As 1 encS a l →
    Calls Try.prog 18 #[.slice a l.length c, .string v] w fun e w' => e = .returned (.int .i64 (sIdx l v)) ∧ Sat β w' As := by
  intro β w As h hr
  refine calls_W (args := [.slice a l.length c, .string v]) Try.func18 rfl rfl rfl ?_
  conv => whnf
  repeat (first | (refine CW.run rfl ?_; conv => whnf) | (refine CW.go ?_; conv => whnf))
  refine CW.loop [0, 1, 7, 8] (fun m vs w => ∃ k : Nat, k ≤ l.length ∧ m = l.length - k ∧ vs = [.slice a l.length c, .string v, .int .i64 l.length, .int .i64 k] ∧ Sat β w As ∧ ∀ i x, i < k → l[i]? = some x → seq v x = false) ?_ ?_
  · conv => whnf
    repeat (first | (refine CW.run rfl ?_; conv => whnf) | (refine CW.go ?_; conv => whnf))
    exact ⟨_, 0, Nat.zero_le _, rfl, rfl, h, fun i _ hi => absurd hi (Nat.not_lt_zero _)⟩
  · rintro m _ w ⟨k, hk, rfl, rfl, h, hno⟩
    conv => whnf
    repeat (first | (refine CW.run rfl ?_; conv => whnf) | (refine CW.go ?_; conv => whnf))
    refine sel_mk (fun h1 => ?_) (fun h1 => ?_)
    · have hlt : k < l.length := by simpa using h1
      conv => whnf
      repeat (first | (refine CW.run rfl ?_; conv => whnf) | (refine CW.go ?_; conv => whnf))
      refine Chk.mk ⟨by omega, by omega, hr.okLt hlt⟩ ?_
      conv => whnf
      repeat (first | (refine CW.run rfl ?_; conv => whnf) | (refine CW.go ?_; conv => whnf))
      refine hr.ld (i := k) (j := 0) h (List.getElem?_eq_getElem hlt) (by decide) rfl (by simp) ?_
      conv => whnf
      repeat (first | (refine CW.run rfl ?_; conv => whnf) | (refine CW.go ?_; conv => whnf))
      refine sel_mk (fun h2 => ?_) (fun h2 => ?_)
      · conv => whnf
        repeat (first | (refine CW.run rfl ?_; conv => whnf) | (refine CW.go ?_; conv => whnf))
        exact ⟨retI (sIdx_some hlt hno h2).symm, h⟩
      · conv => whnf
        repeat (first | (refine CW.run rfl ?_; conv => whnf) | (refine CW.go ?_; conv => whnf))
        refine ⟨_, ?_, k + 1, hlt, rfl, ?_, h, ?_⟩
        · omega
        · rw [wr64 (by omega) (by omega)]; rfl
        · intro i x hi hx
          by_cases hik : i = k
          · subst hik
            rw [List.getElem?_eq_getElem hlt] at hx
            rw [← Option.some.inj hx]; exact h2
          · exact hno i x (by omega) hx
    · conv => whnf
      repeat (first | (refine CW.run rfl ?_; conv => whnf) | (refine CW.go ?_; conv => whnf))
      have hlt : k = l.length := by simp at h1; omega
      exact ⟨retI (sIdx_none (by rw [← hlt]; exact hno)).symm, h⟩

theorem parse (s : ByteArray) : Fn Try.prog 13 [.string s] (.tuple (if 0 ≤ sIdx S4' s then #[.int .i64 (sIdx S4' s), .int .i64 0] else #[.int .i64 0, .int .i64 21])) := by
  intro β w As h
  refine calls_W (args := [.string s]) Try.func13 rfl rfl rfl ?_
  conv => whnf
  repeat (first | (refine CW.run rfl ?_; conv => whnf) | (refine CW.go ?_; conv => whnf))
  refine CallF.ret (names β w As h) (Try.call19 _ _) ?_
  rintro _ w ⟨b, rfl, h⟩
  refine ⟨_, rfl, ?_⟩
  conv => whnf
  repeat (first | (refine CW.run rfl ?_; conv => whnf) | (refine CW.go ?_; conv => whnf))
  refine CallF.val (index_any (l := S4') s (by decide) β w _ h (h.rds 0 rfl)) (Try.call18 _ _) fun w h => ?_
  conv => whnf
  repeat (first | (refine CW.run rfl ?_; conv => whnf) | (refine CW.go ?_; conv => whnf))
  refine sel_mk (fun h1 => ?_) (fun h1 => ?_)
  all_goals
    conv => whnf
    repeat (first | (refine CW.run rfl ?_; conv => whnf) | (refine CW.go ?_; conv => whnf))
    simp only [decide_eq_true_eq, decide_eq_false_iff_not] at h1
    refine ⟨?_, h.tail⟩
  · rw [if_neg (by omega)]
  · rw [if_pos (by omega)]

def nameOf (p : Int) : ByteArray := if 0 ≤ p ∧ p ≤ 3 then S4'.getD p.toNat S1 else ⟨#[]⟩
theorem name_any (p : Int) : Fn Try.prog 15 [.int .i64 p] (.string (nameOf p)) := by
  intro β w As h
  refine calls_W (args := [.int .i64 p]) Try.func15 rfl rfl rfl ?_
  conv => whnf
  repeat (first | (refine CW.run rfl ?_; conv => whnf) | (refine CW.go ?_; conv => whnf))
  refine (right p).call h (Try.call14 _ _) fun w h => ?_
  conv => whnf
  repeat (first | (refine CW.run rfl ?_; conv => whnf) | (refine CW.go ?_; conv => whnf))
  refine sel_mk (fun h1 => ?_) (fun h1 => ?_)
  · conv => whnf
    repeat (first | (refine CW.run rfl ?_; conv => whnf) | (refine CW.go ?_; conv => whnf))
    simp only [Bool.not_eq_true', decide_eq_false_iff_not] at h1
    exact ⟨by rw [nameOf, if_neg h1], h⟩
  · simp only [Bool.not_eq_false', decide_eq_true_eq] at h1
    conv => whnf
    repeat (first | (refine CW.run rfl ?_; conv => whnf) | (refine CW.go ?_; conv => whnf))
    refine CallF.ret (names β w As h) (Try.call19 _ _) ?_
    rintro _ w ⟨b, rfl, h⟩
    refine ⟨_, rfl, ?_⟩
    conv => whnf
    repeat (first | (refine CW.run rfl ?_; conv => whnf) | (refine CW.go ?_; conv => whnf))
    have hlt : p.toNat < S4'.length := by show p.toNat < 4; omega
    refine Chk.mk ⟨by omega, by omega, ⟨_, _, rfl⟩⟩ ?_
    conv => whnf
    repeat (first | (refine CW.run rfl ?_; conv => whnf) | (refine CW.go ?_; conv => whnf))
    refine (h.rds 0 rfl).ld (i := p.toNat) (j := 0) h (List.getElem?_eq_getElem hlt) (by decide) rfl (by simp [off]) ?_
    conv => whnf
    repeat (first | (refine CW.run rfl ?_; conv => whnf) | (refine CW.go ?_; conv => whnf))
    refine ⟨?_, h.tail⟩
    rw [nameOf, if_pos h1, List.getD_eq_getElem?_getD, List.getElem?_eq_getElem hlt]; rfl

def pauseOf (e : Int) : Int := if e < 1 then 0 else if e = 1 then 1 else if e = 2 then 2 else if e = 3 then 4 else 8
theorem pauseOf_big {e : Int} (h : 4 ≤ e) : pauseOf e = 8 := by
  unfold pauseOf
  rw [if_neg (by omega), if_neg (by omega), if_neg (by omega), if_neg (by omega)]
theorem pow_le8 (k : Nat) (h : k ≤ 8) : (1 : Int) * 2 ^ (min k 64) = [1, 2, 4, 8, 16, 32, 64, 128, 256].getD k 0 := by
  have : k = 0 ∨ k = 1 ∨ k = 2 ∨ k = 3 ∨ k = 4 ∨ k = 5 ∨ k = 6 ∨ k = 7 ∨ k = 8 := by omega
  rcases this with rfl | rfl | rfl | rfl | rfl | rfl | rfl | rfl | rfl <;> decide
theorem pause_any (e : Int) (h0 : -9223372036854775808 ≤ e) (h1 : e < 9223372036854775808) : Fn Try.prog 10 [.int .i64 e] (.int .i64 (pauseOf e)) := by
  intro β w As h
  refine calls_W (args := [.int .i64 e]) Try.func10 rfl rfl rfl ?_
  conv => whnf
  repeat (first | (refine CW.run rfl ?_; conv => whnf) | (refine CW.go ?_; conv => whnf))
  refine sel_mk (fun h2 => ?_) (fun h2 => ?_)
  · conv => whnf
    repeat (first | (refine CW.run rfl ?_; conv => whnf) | (refine CW.go ?_; conv => whnf))
    simp only [decide_eq_true_eq] at h2
    exact ⟨by rw [pauseOf, if_pos h2], h⟩
  · simp only [decide_eq_false_iff_not] at h2
    conv => whnf
    repeat (first | (refine CW.run rfl ?_; conv => whnf) | (refine CW.go ?_; conv => whnf))
    rw [wr64 (n := e - 1) (by omega) (by omega)]
    have hm : 0 ≤ (if 8 < e - 1 then (8 : Int) else e - 1) ∧ (if 8 < e - 1 then (8 : Int) else e - 1) ≤ 8 := by split <;> omega
    refine Chk.mk hm.1 ?_
    conv => whnf
    repeat (first | (refine CW.run rfl ?_; conv => whnf) | (refine CW.go ?_; conv => whnf))
    refine ⟨retI ?_, h⟩
    rw [show IntKind.i64.bits = 64 from rfl, pow_le8 _ (by omega)]
    have hc : e = 1 ∨ e = 2 ∨ e = 3 ∨ e = 4 ∨ e = 5 ∨ e = 6 ∨ e = 7 ∨ e = 8 ∨ e = 9 ∨ 9 < e := by omega
    rcases hc with rfl | rfl | rfl | rfl | rfl | rfl | rfl | rfl | rfl | hc <;> try decide
    have h8 : (if 8 < e - 1 then (8 : Int) else e - 1) = 8 := if_pos (by omega)
    rw [h8, pauseOf_big (by omega)]; decide
theorem refPause_any (e : Int) (h0 : -9223372036854775808 ≤ e) (h1 : e < 9223372036854775808) : Fn Try.prog 11 [.int .i64 e] (.int .i64 (pauseOf e)) := by
  intro β w As h
  refine calls_W (args := [.int .i64 e]) Try.func11 rfl rfl rfl ?_
  conv => whnf
  repeat (first | (refine CW.run rfl ?_; conv => whnf) | (refine CW.go ?_; conv => whnf))
  refine sel_mk (fun h2 => ?_) (fun h2 => ?_)
  · conv => whnf
    repeat (first | (refine CW.run rfl ?_; conv => whnf) | (refine CW.go ?_; conv => whnf))
    simp only [decide_eq_true_eq] at h2
    exact ⟨by rw [pauseOf, if_pos h2], h⟩
  · simp only [decide_eq_false_iff_not] at h2
    conv => whnf
    repeat (first | (refine CW.run rfl ?_; conv => whnf) | (refine CW.go ?_; conv => whnf))
    refine CW.loop [0, 3, 4] (fun m vs w => ∃ i : Int, 1 ≤ i ∧ i ≤ 4 ∧ i ≤ e ∧ m = (4 - i).toNat ∧ vs = [.int .i64 e, .int .i64 (pauseOf i), .int .i64 i] ∧ Sat β w As) ?_ ?_
    · conv => whnf
      repeat (first | (refine CW.run rfl ?_; conv => whnf) | (refine CW.go ?_; conv => whnf))
      exact ⟨_, 1, by omega, by omega, by omega, rfl, rfl, h⟩
    · rintro m _ w ⟨i, hi1, hi2, hi3, rfl, rfl, h⟩
      have hc : i = 1 ∨ i = 2 ∨ i = 3 ∨ i = 4 := by omega
      conv => whnf
      repeat (first | (refine CW.run rfl ?_; conv => whnf) | (refine CW.go ?_; conv => whnf))
      refine sel_mk (fun h3 => ?_) (fun h3 => ?_)
      · simp only [decide_eq_true_eq] at h3
        rcases hc with rfl | rfl | rfl | rfl
        all_goals
          conv => whnf
          repeat (first | (refine CW.run rfl ?_; conv => whnf) | (refine CW.go ?_; conv => whnf))
        · exact ⟨_, by decide, 2, by omega, by omega, by omega, rfl, rfl, h⟩
        · exact ⟨_, by decide, 3, by omega, by omega, by omega, rfl, rfl, h⟩
        · exact ⟨_, by decide, 4, by omega, by omega, by omega, rfl, rfl, h⟩
        · exact ⟨by rw [pauseOf_big hi3]; rfl, h⟩
      · simp only [decide_eq_false_iff_not] at h3
        conv => whnf
        repeat (first | (refine CW.run rfl ?_; conv => whnf) | (refine CW.go ?_; conv => whnf))
        obtain rfl : i = e := by omega
        exact ⟨rfl, h⟩
end Go.Ev
