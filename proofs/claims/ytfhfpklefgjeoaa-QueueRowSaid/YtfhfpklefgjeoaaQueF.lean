/- A row of little room: the document's answer, walked. Conditions: none. -/
import Derived.Test.YtfhfpklefgjeoaaQueE
namespace Go.Ev
open Go Go.Proofs
set_option maxRecDepth 10000
set_option maxHeartbeats 4000000

section
variable {a : Option Addr} {c : Nat} {l : List Num}
theorem wrong5_any (hl : l.length ≤ 4096) : ∀ β w As, Sat β w As → Rds β As 2 encN a l →
    Calls Try.prog 92 #[.slice a l.length c] w fun e w' => e = .returned (.int .i64 (wrongL l)) ∧ Sat β w' As := by
  intro β w As h hr0
  refine calls_W (args := [.slice a l.length c]) Try.func92 rfl rfl rfl ?_
  unfold wrongL
  conv => whnf
  repeat (first | ((with_reducible refine CW.is ?_); (first | refine CW.run rfl ?_ | refine CW.go ?_); conv => whnf) | ((with_reducible refine Wr.is ?_); refine Wr.i64 (by omega) (by omega) ?_; conv => whnf))
  refine sel_mk (fun h1 => ?_) (fun h1 => ?_)
  · have h1 : (l.length : Int) - 1 < 1 := by simpa using h1
    conv => whnf
    repeat (first | ((with_reducible refine CW.is ?_); refine CW.run rfl ?_; conv => whnf))
    rw [if_pos (by omega)]
    exact ⟨rfl, h⟩
  have h1 : ¬ (l.length : Int) - 1 < 1 := by simpa using h1
  rw [if_neg (by omega)]
  conv => whnf
  repeat (first | ((with_reducible refine CW.is ?_); (first | refine CW.run rfl ?_ | refine CW.go ?_); conv => whnf) | ((with_reducible refine Chk.is ?_); refine Rds.chkR hr0 (by omega) (by omega) ?_; conv => whnf) | ((with_reducible refine Ld.is ?_); refine Rds.ldR0 hr0 h rfl (by omega) (by omega) ?_; conv => whnf))
  refine sel_mk (fun h2 => ?_) (fun h2 => ?_)
  · have h2 : (gN l 0).1 < 0 := by simpa using h2
    conv => whnf
    repeat (first | ((with_reducible refine CW.is ?_); refine CW.run rfl ?_; conv => whnf))
    rw [if_pos (.inl h2)]
    exact ⟨rfl, h⟩
  have h2 : ¬ (gN l 0).1 < 0 := by simpa using h2
  conv => whnf
  repeat (first | ((with_reducible refine Chk.is ?_); refine Rds.chkR hr0 (by omega) (by omega) ?_; conv => whnf) | ((with_reducible refine Ld.is ?_); refine Rds.ldR0 hr0 h rfl (by omega) (by omega) ?_; conv => whnf))
  refine sel_mk (fun h3 => ?_) (fun h3 => ?_)
  · have h3 : (l.length : Int) - 1 ≤ (gN l 0).1 := by simpa using h3
    conv => whnf
    repeat (first | ((with_reducible refine CW.is ?_); refine CW.run rfl ?_; conv => whnf))
    rw [if_pos (.inr (.inl h3))]
    exact ⟨rfl, h⟩
  have h3 : ¬ (l.length : Int) - 1 ≤ (gN l 0).1 := by simpa using h3
  conv => whnf
  repeat (first | ((with_reducible refine Chk.is ?_); refine Rds.chkR hr0 (by omega) (by omega) ?_; conv => whnf) | ((with_reducible refine Ld.is ?_); refine Rds.ldR1 hr0 h rfl (by omega) (by omega) ?_; conv => whnf))
  refine sel_mk (fun h4 => ?_) (fun h4 => ?_)
  · have h4 : (gN l 0).2 < 0 := by simpa using h4
    conv => whnf
    repeat (first | ((with_reducible refine CW.is ?_); refine CW.run rfl ?_; conv => whnf))
    rw [if_pos (.inr (.inr (.inl h4)))]
    exact ⟨rfl, h⟩
  have h4 : ¬ (gN l 0).2 < 0 := by simpa using h4
  conv => whnf
  repeat (first | ((with_reducible refine CW.is ?_); refine CW.run rfl ?_; conv => whnf) | ((with_reducible refine Chk.is ?_); refine Rds.chkR hr0 (by omega) (by omega) ?_; conv => whnf) | ((with_reducible refine Ld.is ?_); refine Rds.ldR1 hr0 h rfl (by omega) (by omega) ?_; conv => whnf))
  refine sel_mk (fun h5 => ?_) (fun h5 => ?_)
  · have h5 : (l.length : Int) - 1 < (gN l 0).2 := by simpa using h5
    conv => whnf
    repeat (first | ((with_reducible refine CW.is ?_); refine CW.run rfl ?_; conv => whnf))
    rw [if_pos (.inr (.inr (.inr h5)))]
    exact ⟨rfl, h⟩
  have h5 : ¬ (l.length : Int) - 1 < (gN l 0).2 := by simpa using h5
  conv => whnf
  repeat (first | ((with_reducible refine CW.is ?_); refine CW.run rfl ?_; conv => whnf))
  rw [if_neg (by omega)]
  exact ⟨rfl, h⟩
theorem with5_any (pl : Int) (v hd : Num) (h0 : 0 ≤ pl) (h1 : pl + 1 < l.length) (hl : l.length ≤ 4096) : ∀ β w As, Sat β w As → Rds β As 2 encN a l →
    Calls Try.prog 93 #[.slice a l.length c, .int .i64 pl, vN v, vN hd] w fun e w' => ∃ a' c', e = .returned (.slice a' ((l.set (pl + 1).toNat v).set 0 hd).length c') ∧ Sat β w' (Own 33 2 encN a' c' ((l.set (pl + 1).toNat v).set 0 hd) :: As) := by
  intro β w As h hr
  refine calls_W (args := [.slice a l.length c, .int .i64 pl, vN v, vN hd]) Try.func93 rfl rfl rfl ?_
  conv => whnf
  skip
  refine Sat.newK h fun V w h => ?_
  conv => whnf
  skip
  refine Sat.newK h fun H w h => ?_
  conv => whnf
  repeat (first | ((with_reducible refine CW.is ?_); refine CW.run rfl ?_; conv => whnf))
  refine Sat.newK h fun B w h => ?_
  conv => whnf
  skip
  have h := h.own_of (sz := 2) (enc := encN) [] rfl (fun _ hx => by cases hx)
  refine Sat.append (l := []) (xs := l) (sz := 2) (enc := encN) h rfl rfl rfl (by decide) rfl rfl rfl hr.cons.cons.cons (fun _ => rfl) (fun _ => rfl) (by show _ * 16 ≤ _; simp; omega) fun a' c' w h => ?_
  simp only [List.nil_append, List.length_nil, Nat.zero_add] at h ⊢
  conv => whnf
  repeat (first | ((with_reducible refine CW.is ?_); refine CW.run rfl ?_; conv => whnf) | ((with_reducible refine Wr.is ?_); refine Wr.i64 (by omega) (by omega) ?_; conv => whnf) | ((with_reducible refine Chk.is ?_); refine Rds.chkR (Sat.rds 0 h rfl) (by omega) (by omega) ?_; conv => whnf) | ((with_reducible refine LdN.is ?_); refine Sat.ldN 2 h rfl _ rfl rfl ?_; conv => whnf))
  refine h.storeOwn (j := (pl + 1).toNat) 0 v rfl rfl rfl rfl rfl rfl (by omega) rfl ?_
  conv => whnf
  repeat (refine Wr.any ?_; conv => whnf)
  intro w h
  have e : l.length = (l.set (pl + 1).toNat v).length := by simp
  rw [e]
  conv => whnf
  repeat (first | ((with_reducible refine CW.is ?_); refine CW.run rfl ?_; conv => whnf) | ((with_reducible refine Chk.is ?_); refine Rds.chkR (Sat.rds 0 h rfl) (by omega) (by omega) ?_; conv => whnf) | ((with_reducible refine LdN.is ?_); refine Sat.ldN 1 h rfl _ rfl rfl ?_; conv => whnf))
  refine h.storeOwn (j := 0) 0 hd rfl rfl rfl rfl rfl rfl (by simp; omega) (by simp) ?_
  conv => whnf
  repeat (refine Wr.any ?_; conv => whnf)
  intro w h
  conv => whnf
  repeat (first | ((with_reducible refine CW.is ?_); refine CW.run rfl ?_; conv => whnf))
  exact ⟨a', c', by simp, h.cut 2⟩
theorem at5_any (i : Int) (hi : okI i) (hl : l.length ≤ 4096) : ∀ β w As, Sat β w As → Rds β As 2 encN a l →
    Calls Try.prog 79 #[.slice a l.length c, .int .i64 i] w fun e w' => e = .returned (oNE (atL l i)) ∧ Sat β w' As := by
  intro β w As h hr0
  refine calls_W (args := [.slice a l.length c, .int .i64 i]) Try.func79 rfl rfl rfl ?_
  have m := fun w As h hr => wrong5_any (a := a) (c := c) hl β w As h hr
  have ok := fun h => wrongL_ok (l := l) h
  unfold atL
  generalize wrongL l = wr at m ok
  conv => whnf
  skip
  refine Sat.newK h fun X w h => ?_
  conv => whnf
  repeat (first | ((with_reducible refine CW.is ?_); refine CW.run rfl ?_; conv => whnf))
  refine CallF.val (m w _ h hr0.cons) (Try.call92 _ _) fun w h => ?_
  conv => whnf
  repeat (first | ((with_reducible refine CW.is ?_); (first | refine CW.run rfl ?_ | refine CW.go ?_); conv => whnf))
  refine sel_mk (fun h1 => ?_) (fun h1 => ?_)
  · have h1 : wr ≠ 0 := by simpa using h1
    conv => whnf
    repeat (first | ((with_reducible refine CW.is ?_); refine CW.run rfl ?_; conv => whnf) | ((with_reducible refine LdN.is ?_); refine Sat.ldN 0 h rfl _ rfl rfl ?_; conv => whnf) | ((with_reducible refine Runs.is ?_); refine Sat.store 0 h rfl rfl rfl rfl rfl ?_; (conv => whnf); intro w h; (conv => whnf)))
    rw [if_neg h1]
    exact ⟨rfl, h.tail⟩
  obtain rfl : wr = 0 := by simpa using h1
  have ok := ok rfl
  rw [if_pos rfl]
  conv => whnf
  repeat (first | ((with_reducible refine CW.is ?_); (first | refine CW.run rfl ?_ | refine CW.go ?_); conv => whnf))
  refine sel_mk (fun h2 => ?_) (fun h2 => ?_)
  · have h2 : i < 0 := by simpa using h2
    conv => whnf
    repeat (first | ((with_reducible refine CW.is ?_); refine CW.run rfl ?_; conv => whnf) | ((with_reducible refine LdN.is ?_); refine Sat.ldN 0 h rfl _ rfl rfl ?_; conv => whnf) | ((with_reducible refine Runs.is ?_); refine Sat.store 0 h rfl rfl rfl rfl rfl ?_; (conv => whnf); intro w h; (conv => whnf)))
    rw [if_pos (.inl h2)]
    exact ⟨rfl, h.tail⟩
  have h2 : ¬ i < 0 := by simpa using h2
  conv => whnf
  repeat (first | ((with_reducible refine CW.is ?_); refine CW.run rfl ?_; conv => whnf) | ((with_reducible refine Chk.is ?_); refine Rds.chkR hr0 (by omega) (by omega) ?_; conv => whnf) | ((with_reducible refine Ld.is ?_); refine Rds.ldR1 hr0.cons h rfl (by omega) (by omega) ?_; conv => whnf))
  refine sel_mk (fun h3 => ?_) (fun h3 => ?_)
  · have h3 : (gN l 0).2 ≤ i := by simpa using h3
    conv => whnf
    repeat (first | ((with_reducible refine CW.is ?_); refine CW.run rfl ?_; conv => whnf) | ((with_reducible refine LdN.is ?_); refine Sat.ldN 0 h rfl _ rfl rfl ?_; conv => whnf) | ((with_reducible refine Runs.is ?_); refine Sat.store 0 h rfl rfl rfl rfl rfl ?_; (conv => whnf); intro w h; (conv => whnf)))
    rw [if_pos (.inr h3)]
    exact ⟨rfl, h.tail⟩
  have h3 : ¬ (gN l 0).2 ≤ i := by simpa using h3
  rw [if_neg (by rintro (hh | hh); exact h2 hh; exact h3 hh)]
  have n0 : (l.length : Int) - 1 ≠ 0 := by omega
  have np : 0 < (l.length : Int) - 1 := by omega
  have b0 := Int.emod_nonneg ((gN l 0).1 + i) n0
  have b1 := Int.emod_lt_of_pos ((gN l 0).1 + i) np
  conv => whnf
  repeat (first | ((with_reducible refine CW.is ?_); refine CW.run rfl ?_; conv => whnf) | ((with_reducible refine Wr.is ?_); refine Wr.i64 (by omega) (by omega) ?_; conv => whnf) | ((with_reducible refine Chk.is ?_); refine Rds.chkR hr0 (by omega) (by omega) ?_; conv => whnf) | ((with_reducible refine Ld.is ?_); refine Rds.ldR0 hr0.cons h rfl (by omega) (by omega) ?_; conv => whnf))
  refine Chk.mk n0 ?_
  rw [tmodN (by omega)]
  generalize ((gN l 0).1 + i) % ((l.length : Int) - 1) = p at b0 b1
  conv => whnf
  repeat (first | ((with_reducible refine CW.is ?_); refine CW.run rfl ?_; conv => whnf) | ((with_reducible refine Wr.is ?_); refine Wr.i64 (by omega) (by omega) ?_; conv => whnf) | ((with_reducible refine Chk.is ?_); refine Rds.chkR hr0 (by omega) (by omega) ?_; conv => whnf) | ((with_reducible refine LdN.is ?_); (first | refine Sat.ldN 0 h rfl _ rfl rfl ?_ | refine Rds.ldNR hr0.cons h rfl (by omega) (by omega) ?_); conv => whnf) | ((with_reducible refine Runs.is ?_); refine Sat.store 0 h rfl rfl rfl rfl rfl ?_; (conv => whnf); intro w h; (conv => whnf)))
  exact ⟨rfl, h.tail⟩
theorem len5_any (hl : l.length ≤ 4096) : ∀ β w As, Sat β w As → Rds β As 2 encN a l →
    Calls Try.prog 78 #[.slice a l.length c] w fun e w' => e = .returned (.tuple #[.int .i64 (if wrongL l = 0 then (gN l 0).2 else 0), .int .i64 (wrongL l)]) ∧ Sat β w' As := by
  intro β w As h hr0
  refine calls_W (args := [.slice a l.length c]) Try.func78 rfl rfl rfl ?_
  have m := fun w As h hr => wrong5_any (a := a) (c := c) hl β w As h hr
  have ok := fun h => wrongL_ok (l := l) h
  generalize wrongL l = wr at m ok
  conv => whnf
  repeat (first | ((with_reducible refine CW.is ?_); refine CW.run rfl ?_; conv => whnf))
  refine CallF.val (m w _ h hr0) (Try.call92 _ _) fun w h => ?_
  conv => whnf
  repeat (first | ((with_reducible refine CW.is ?_); (first | refine CW.run rfl ?_ | refine CW.go ?_); conv => whnf))
  refine sel_mk (fun h1 => ?_) (fun h1 => ?_)
  · have h1 : wr ≠ 0 := by simpa using h1
    conv => whnf
    repeat (first | ((with_reducible refine CW.is ?_); refine CW.run rfl ?_; conv => whnf))
    rw [if_neg h1]
    exact ⟨rfl, h⟩
  obtain rfl : wr = 0 := by simpa using h1
  have ok := ok rfl
  rw [if_pos rfl]
  conv => whnf
  repeat (first | ((with_reducible refine CW.is ?_); refine CW.run rfl ?_; conv => whnf) | ((with_reducible refine Chk.is ?_); refine Rds.chkR hr0 (by omega) (by omega) ?_; conv => whnf) | ((with_reducible refine Ld.is ?_); refine Rds.ldR1 hr0 h rfl (by omega) (by omega) ?_; conv => whnf))
  exact ⟨rfl, h⟩
theorem put5_any (v : Num) (last : Bool) (hl : l.length ≤ 4096) : ∀ β w As, Sat β w As → Rds β As 2 encN a l →
    Calls Try.prog 76 #[.slice a l.length c, vN v, .bool last] w fun e w' => ∃ a' c', e = .returned (.tuple #[.slice a' (putL l v (!last)).2.length c', .int .i64 (putL l v (!last)).1]) ∧ Fresh β w' As a c l a' c' (putL l v (!last)).2 := by
  intro β w As h hr0
  refine calls_W (args := [.slice a l.length c, vN v, .bool last]) Try.func76 rfl rfl rfl ?_
  have m := fun w As h hr => wrong5_any (a := a) (c := c) hl β w As h hr
  have m2 := refRight_any v
  have ok := fun h => wrongL_ok (l := l) h
  unfold putL
  generalize wrongL l = wr at m ok
  generalize rightN v = r at m2
  conv => whnf
  skip
  refine Sat.newK h fun V w h => ?_
  conv => whnf
  repeat (first | ((with_reducible refine CW.is ?_); refine CW.run rfl ?_; conv => whnf) | ((with_reducible refine LdN.is ?_); refine Sat.ldN 0 h rfl _ rfl rfl ?_; conv => whnf))
  refine m2.call h (Try.call44 _ _) fun w h => ?_
  cases r with
  | false =>
    conv => whnf
    repeat (first | ((with_reducible refine CW.is ?_); (first | refine CW.run rfl ?_ | refine CW.go ?_); conv => whnf))
    exact ⟨a, c, rfl, .inl ⟨rfl, rfl, rfl, h.tail⟩⟩
  | true => ?_
  simp only [if_true]
  conv => whnf
  repeat (first | ((with_reducible refine CW.is ?_); (first | refine CW.run rfl ?_ | refine CW.go ?_); conv => whnf))
  refine CallF.val (m w _ h hr0.cons) (Try.call92 _ _) fun w h => ?_
  conv => whnf
  repeat (first | ((with_reducible refine CW.is ?_); (first | refine CW.run rfl ?_ | refine CW.go ?_); conv => whnf))
  refine sel_mk (fun h1 => ?_) (fun h1 => ?_)
  · have h1 : wr ≠ 0 := by simpa using h1
    conv => whnf
    repeat (first | ((with_reducible refine CW.is ?_); refine CW.run rfl ?_; conv => whnf))
    rw [if_neg h1]
    exact ⟨a, c, rfl, .inl ⟨rfl, rfl, rfl, h.tail⟩⟩
  obtain rfl : wr = 0 := by simpa using h1
  have ok := ok rfl
  rw [if_pos rfl]
  conv => whnf
  repeat (first | ((with_reducible refine CW.is ?_); (first | refine CW.run rfl ?_ | refine CW.go ?_); conv => whnf) | ((with_reducible refine Wr.is ?_); refine Wr.i64 (by omega) (by omega) ?_; conv => whnf) | ((with_reducible refine Chk.is ?_); refine Rds.chkR hr0 (by omega) (by omega) ?_; conv => whnf) | ((with_reducible refine Ld.is ?_); (first | refine Rds.ldR0 hr0.cons h rfl (by omega) (by omega) ?_ | refine Rds.ldR1 hr0.cons h rfl (by omega) (by omega) ?_); conv => whnf))
  refine sel_mk (fun h2 => ?_) (fun h2 => ?_)
  · have h2 : (gN l 0).2 = l.length - 1 := by simpa using h2
    conv => whnf
    repeat (first | ((with_reducible refine CW.is ?_); refine CW.run rfl ?_; conv => whnf))
    rw [if_pos h2]
    exact ⟨a, c, rfl, .inl ⟨rfl, rfl, rfl, h.tail⟩⟩
  have h2 : ¬ (gN l 0).2 = l.length - 1 := by simpa using h2
  rw [if_neg h2]
  have n0 : (l.length : Int) - 1 ≠ 0 := by omega
  have np : 0 < (l.length : Int) - 1 := by omega
  cases last with
  | true =>
    simp only [Bool.not_true, Bool.false_eq_true, if_false]
    have b0 := Int.emod_nonneg ((gN l 0).1 + (gN l 0).2) n0
    have b1 := Int.emod_lt_of_pos ((gN l 0).1 + (gN l 0).2) np
    conv => whnf
    repeat (first | ((with_reducible refine CW.is ?_); (first | refine CW.run rfl ?_ | refine CW.go ?_); conv => whnf) | ((with_reducible refine Wr.is ?_); refine Wr.i64 (by omega) (by omega) ?_; conv => whnf) | ((with_reducible refine CW.is ?_); refine CW.draw (id := 13) [(0, 0), (1, 0), (2, 0), (3, 0), (4, 0), (5, 0), (6, 4), (7, 0), (8, 0), (9, 0), (10, 0), (11, 3), (12, 0), (13, 0)] rfl (by kernel_rfl) (fun _ => True) (fun w e1 e2 e3 e4 => ⟨trivial, ?_⟩); replace h := h.draw e1 e2 e3 e4; clear e1 e2 e3 e4; (conv => whnf)))
    refine Chk.mk n0 ?_
    rw [tmodN (by omega)]
    generalize ((gN l 0).1 + (gN l 0).2) % ((l.length : Int) - 1) = p at b0 b1
    conv => whnf
    repeat (first | ((with_reducible refine Wr.is ?_); refine Wr.i64 (by omega) (by omega) ?_; conv => whnf) | ((with_reducible refine LdN.is ?_); refine Sat.ldN 0 h rfl _ rfl rfl ?_; conv => whnf))
    refine CallF.ret (with5_any p v ((gN l 0).1, (gN l 0).2 + 1) (by omega) (by omega) hl β w _ h hr0.cons) (Try.call93 _ _) ?_
    rintro _ w ⟨a', c', rfl, h⟩
    refine ⟨_, rfl, ?_⟩
    conv => whnf
    repeat (first | ((with_reducible refine CW.is ?_); refine CW.run rfl ?_; conv => whnf))
    exact ⟨a', c', rfl, .inr (h.cut 1)⟩
  | false =>
    simp only [Bool.not_false, if_true]
    have b0 := Int.emod_nonneg ((gN l 0).1 + (l.length - 1) - 1) n0
    have b1 := Int.emod_lt_of_pos ((gN l 0).1 + (l.length - 1) - 1) np
    conv => whnf
    repeat (first | ((with_reducible refine CW.is ?_); (first | refine CW.run rfl ?_ | refine CW.go ?_); conv => whnf) | ((with_reducible refine Wr.is ?_); refine Wr.i64 (by omega) (by omega) ?_; conv => whnf))
    refine Chk.mk n0 ?_
    rw [tmodN (by omega)]
    generalize ((gN l 0).1 + (l.length - 1) - 1) % ((l.length : Int) - 1) = p at b0 b1
    conv => whnf
    repeat (first | ((with_reducible refine CW.is ?_); refine CW.run rfl ?_; conv => whnf) | ((with_reducible refine Wr.is ?_); refine Wr.i64 (by omega) (by omega) ?_; conv => whnf) | ((with_reducible refine LdN.is ?_); refine Sat.ldN 0 h rfl _ rfl rfl ?_; conv => whnf))
    refine CallF.ret (with5_any p v (p, (gN l 0).2 + 1) (by omega) (by omega) hl β w _ h hr0.cons) (Try.call93 _ _) ?_
    rintro _ w ⟨a', c', rfl, h⟩
    refine ⟨_, rfl, ?_⟩
    conv => whnf
    repeat (first | ((with_reducible refine CW.is ?_); refine CW.run rfl ?_; conv => whnf))
    exact ⟨a', c', rfl, .inr (h.cut 1)⟩
theorem take5_any (last : Bool) (hl : l.length ≤ 4096) : ∀ β w As, Sat β w As → Rds β As 2 encN a l →
    Calls Try.prog 77 #[.slice a l.length c, .bool last] w fun e w' => ∃ a' c', e = .returned (.tuple #[.slice a' (takeL l (!last)).2.length c', vN (takeL l (!last)).1.1, .int .i64 (takeL l (!last)).1.2]) ∧ Fresh β w' As a c l a' c' (takeL l (!last)).2 := by
  intro β w As h hr0
  refine calls_W (args := [.slice a l.length c, .bool last]) Try.func77 rfl rfl rfl ?_
  have m := fun w As h hr => wrong5_any (a := a) (c := c) hl β w As h hr
  have ok := fun h => wrongL_ok (l := l) h
  have aok : ∀ i, (atL l i).2 = 0 → wrongL l = 0 := by
    intro i h0
    unfold atL at h0
    split at h0
    · assumption
    · rename_i h1; exact absurd h0 h1
  unfold takeL
  conv => whnf
  skip
  refine Sat.newK h fun X w h => ?_
  conv => whnf
  repeat (first | ((with_reducible refine CW.is ?_); refine CW.run rfl ?_; conv => whnf))
  refine CallF.val (m w _ h hr0.cons) (Try.call92 _ _) fun w h => ?_
  conv => whnf
  repeat (first | (refine CW.run rfl ?_; conv => whnf) | (refine Wr.any ?_; conv => whnf))
  refine CW.join [0, 1, 5, 7] (fun vs w => ∃ i, okI i ∧ i = (if wrongL l = 0 ∧ (!last) = false then (gN l 0).2 - 1 else 0) ∧ vs = [.slice a l.length c, .bool last, ptr X, .int .i64 i] ∧ Sat β w (row X 33 [.int .i64 0, .int .i64 0] :: As)) ?_ ?_
  · generalize wrongL l = wr at ok
    conv => whnf
    skip
    refine sel_mk (fun h1 => ?_) (fun h1 => ?_)
    · obtain rfl : wr = 0 := by simpa using h1
      have ok := ok rfl
      cases last
      · conv => whnf
        repeat (first | ((with_reducible refine CW.is ?_); refine CW.run rfl ?_; conv => whnf))
        exact ⟨0, ⟨by decide, by decide⟩, by simp, rfl, h⟩
      · conv => whnf
        repeat (first | ((with_reducible refine CW.is ?_); refine CW.run rfl ?_; conv => whnf) | ((with_reducible refine Wr.is ?_); refine Wr.i64 (by omega) (by omega) ?_; conv => whnf) | ((with_reducible refine Chk.is ?_); refine Rds.chkR hr0 (by omega) (by omega) ?_; conv => whnf) | ((with_reducible refine Ld.is ?_); refine Rds.ldR1 hr0.cons h rfl (by omega) (by omega) ?_; conv => whnf))
        exact ⟨_, ⟨by omega, by omega⟩, by simp, rfl, h⟩
    · have h1 : wr ≠ 0 := by simpa using h1
      conv => whnf
      repeat (first | ((with_reducible refine CW.is ?_); refine CW.run rfl ?_; conv => whnf))
      exact ⟨0, ⟨by decide, by decide⟩, by simp [h1], rfl, h⟩
  clear h m
  rintro _ w ⟨i, hi, ei, rfl, h⟩
  rw [← ei]
  have ma := fun w As h hr => at5_any (a := a) (c := c) i hi hl β w As h hr
  have aok := aok i
  generalize atL l i = r at ma aok
  obtain ⟨x, e⟩ := r
  dsimp only at aok ⊢
  conv => whnf
  repeat (first | ((with_reducible refine CW.is ?_); refine CW.run rfl ?_; conv => whnf))
  refine CallF.val (ma w _ h hr0.cons) (Try.call79 _ _) fun w h => ?_
  conv => whnf
  skip
  refine Sat.newK h fun Y w h => ?_
  conv => whnf
  repeat (first | ((with_reducible refine CW.is ?_); (first | refine CW.run rfl ?_ | refine CW.go ?_); conv => whnf) | ((with_reducible refine Runs.is ?_); refine Sat.store 0 h rfl rfl rfl rfl rfl ?_; (conv => whnf); intro w h; (conv => whnf)))
  refine sel_mk (fun h1 => ?_) (fun h1 => ?_)
  · have h1 : e ≠ 0 := by simpa using h1
    conv => whnf
    repeat (first | ((with_reducible refine CW.is ?_); refine CW.run rfl ?_; conv => whnf) | ((with_reducible refine LdN.is ?_); refine Sat.ldN 1 h rfl _ rfl rfl ?_; conv => whnf) | ((with_reducible refine Runs.is ?_); refine Sat.store 1 h rfl rfl rfl rfl rfl ?_; (conv => whnf); intro w h; (conv => whnf)))
    rw [if_neg h1]
    exact ⟨a, c, rfl, .inl ⟨rfl, rfl, rfl, h.tail.tail⟩⟩
  obtain rfl : e = 0 := by simpa using h1
  have ok := ok (aok rfl)
  rw [if_pos rfl]
  conv => whnf
  repeat (first | ((with_reducible refine CW.is ?_); refine CW.run rfl ?_; conv => whnf))
  refine Sat.newK h fun B w h => ?_
  conv => whnf
  skip
  have h := h.own_of (sz := 2) (enc := encN) [] rfl (fun _ hx => by cases hx)
  refine Sat.append (l := []) (xs := l) (sz := 2) (enc := encN) h rfl rfl rfl (by decide) rfl rfl rfl hr0.cons.cons.cons (fun _ => rfl) (fun _ => rfl) (by show _ * 16 ≤ _; simp; omega) fun a' c' w h => ?_
  simp only [List.nil_append, List.length_nil, Nat.zero_add] at h ⊢
  conv => whnf
  repeat (first | ((with_reducible refine CW.is ?_); refine CW.run rfl ?_; conv => whnf) | ((with_reducible refine Chk.is ?_); refine Rds.chkR hr0 (by omega) (by omega) ?_; conv => whnf) | ((with_reducible refine Ld.is ?_); refine Rds.ldR0 hr0.cons.cons.cons h rfl (by omega) (by omega) ?_; conv => whnf))
  refine CW.join [0, 5, 9, 11, 12] (fun vs w => vs = [.slice a l.length c, ptr X, ptr Y, .slice a' l.length c', .int .i64 (if (!last) = true then ((gN l 0).1 + 1) % (l.length - 1) else (gN l 0).1)] ∧ Sat β w (Own 33 2 encN a' c' l :: row Y 33 [.int .i64 x.1, .int .i64 x.2] :: row X 33 [.int .i64 0, .int .i64 0] :: As)) ?_ ?_
  · have n0 : (l.length : Int) - 1 ≠ 0 := by omega
    cases last
    · conv => whnf
      repeat (first | ((with_reducible refine CW.is ?_); refine CW.run rfl ?_; conv => whnf) | ((with_reducible refine Wr.is ?_); refine Wr.i64 (by omega) (by omega) ?_; conv => whnf))
      refine Chk.mk n0 ?_
      rw [tmodN (by omega)]
      conv => whnf
      skip
      exact ⟨rfl, h⟩
    · conv => whnf
      repeat (first | ((with_reducible refine CW.is ?_); refine CW.run rfl ?_; conv => whnf))
      exact ⟨rfl, h⟩
  clear h
  rintro _ w ⟨rfl, h⟩
  generalize (if (!last) = true then ((gN l 0).1 + 1) % ((l.length : Int) - 1) else (gN l 0).1) = f
  conv => whnf
  repeat (first | ((with_reducible refine CW.is ?_); refine CW.run rfl ?_; conv => whnf) | ((with_reducible refine Wr.is ?_); refine Wr.i64 (by omega) (by omega) ?_; conv => whnf) | ((with_reducible refine Chk.is ?_); (first | refine Rds.chkR (Sat.rds 0 h rfl) (by omega) (by omega) ?_ | refine Rds.chkR hr0 (by omega) (by omega) ?_); conv => whnf) | ((with_reducible refine Ld.is ?_); refine Rds.ldR1 hr0.cons.cons.cons h rfl (by omega) (by omega) ?_; conv => whnf))
  refine h.storeOwn (j := 0) 0 (f, (gN l 0).2 - 1) rfl rfl rfl rfl rfl rfl (by omega) (by simp) ?_
  conv => whnf
  repeat (refine Wr.any ?_; conv => whnf)
  intro w h
  conv => whnf
  repeat (first | ((with_reducible refine CW.is ?_); refine CW.run rfl ?_; conv => whnf) | ((with_reducible refine LdN.is ?_); (first | refine Sat.ldN 1 h rfl _ rfl rfl ?_ | refine Sat.ldN 2 h rfl _ rfl rfl ?_); conv => whnf) | ((with_reducible refine Runs.is ?_); refine Sat.store 2 h rfl rfl rfl rfl rfl ?_; (conv => whnf); intro w h; (conv => whnf)) | ((with_reducible refine CW.is ?_); refine CW.draw (id := 13) [(0, 0), (1, 4), (2, 0), (3, 3), (4, 0)] rfl (by kernel_rfl) (fun _ => True) (fun w e1 e2 e3 e4 => ⟨trivial, ?_⟩); replace h := h.draw e1 e2 e3 e4; clear e1 e2 e3 e4; (conv => whnf)))
  exact ⟨a', c', by simp; rfl, .inr (h.cut 2)⟩
end
end Go.Ev
