/- Things that come and go: calls on a memory that stops. Conditions: none. -/
import Derived.Test.YtfhfpklefgjeoaaObjB
namespace Go.Ev
open Go Go.Proofs
set_option maxRecDepth 10000
set_option maxHeartbeats 4000000

theorem lawObjectStops {β : World} {n : Int} (hn : okI n) {a : Option Addr} {c : Nat} {l : List Num} (hl : l.length ≤ 9223372036854775807) (hr : ∀ As, Rds β As 2 encN a l) (x : Act3) (hx : okI x.2.1.2) :
    ∀ w, Sat β w [] → Calls Try.prog 13 #[.slice a l.length c, .int .i64 n, vA3 x] w fun e w' => e = .returned (.bool true) ∧ Sat β w' [] := by
  intro w h
  obtain ⟨k, y, v, t, ago⟩ := x
  dsimp only at hx
  refine calls_W (args := [.slice a l.length c, .int .i64 n, vA3 (k, y, v, t, ago)]) Try.func13 rfl rfl rfl ?_
  have r2 := fun w As h => ref2Right_any (c := c) hl β w As h (hr As)
  generalize e0 : (l.all rightN && decide (l.length ≤ 4096)) = ok at r2
  conv => whnf
  skip
  refine Sat.newK h fun A w h => ?_
  conv => whnf
  repeat (first | ((with_reducible refine CW.is ?_); refine CW.run rfl ?_; conv => whnf))
  refine CallF.val (r2 w _ h) (Try.call14 _ _) fun w h => ?_
  conv => whnf
  repeat (first | ((with_reducible refine CW.is ?_); refine CW.go ?_; conv => whnf))
  refine sel_mk (fun h1 => ?_) (fun h1 => ?_)
  · conv => whnf
    repeat (first | ((with_reducible refine CW.is ?_); refine CW.run rfl ?_; conv => whnf))
    refine alive3_any.call h (Try.call43 _ _) fun w h => ?_
    conv => whnf
    repeat (first | ((with_reducible refine CW.is ?_); refine CW.run rfl ?_; conv => whnf))
    exact ⟨rfl, h.drop⟩
  obtain rfl : ok = true := by simpa using h1
  have hok : l.all rightN = true ∧ l.length ≤ 4096 := by simpa [Bool.and_eq_true] using e0
  conv => whnf
  repeat (first | ((with_reducible refine CW.is ?_); refine CW.run rfl ?_; conv => whnf))
  refine sel_mk (fun h1 => ?_) (fun h1 => ?_)
  · conv => whnf
    repeat (first | ((with_reducible refine CW.is ?_); refine CW.run rfl ?_; conv => whnf))
    refine alive3_any.call h (Try.call43 _ _) fun w h => ?_
    conv => whnf
    repeat (first | ((with_reducible refine CW.is ?_); refine CW.run rfl ?_; conv => whnf))
    exact ⟨rfl, h.drop⟩
  have hs : l.length ≤ 150 := by simp at h1; omega
  conv => whnf
  repeat (first | ((with_reducible refine CW.is ?_); refine CW.run rfl ?_; conv => whnf))
  refine CallF.ret (memLoad_any hok.1 hok.2 β w _ h (hr _)) (Try.call16 _ _) ?_
  rintro _ w ⟨p, rfl, h⟩
  refine ⟨_, rfl, ?_⟩
  conv => whnf
  repeat (first | ((with_reducible refine CW.is ?_); refine CW.run rfl ?_; conv => whnf))
  refine CallF.ret (memLoad_any hok.1 hok.2 β w _ h (hr _)) (Try.call16 _ _) ?_
  rintro _ w ⟨q, rfl, h⟩
  refine ⟨_, rfl, ?_⟩
  conv => whnf
  repeat (first | ((with_reducible refine CW.is ?_); (first | refine CW.run rfl ?_ | refine CW.go ?_); conv => whnf))
  refine CallF.ret (fuse_any (T := 26) (u := ptr q) (R := Plain q) n (by have := hn.2; omega) β w _ h) (Try.call17 _ _) ?_
  rintro _ w ⟨u, rfl, h⟩
  refine ⟨_, rfl, ?_⟩
  have G := goodP (N := l.length) (by omega) (by omega)
  have GF := goodF G
  have hst := Strict.stops (rd := rdP) (wr := wrP) _ (strict_once (N := l.length) (k := k) (h := y) (v := v)) n.toNat l
  have hlen : ((onceM l.length k y v).run rdP wrP l).2.length = l.length := by have := (G.run (onceM l.length k y v) l ⟨rfl, hok.1⟩).1; omega
  have hlenF : ((onceM l.length k y v).run (rdF rdP) (wrF wrP) (n.toNat, l)).2.2.length = l.length := by have := (GF.run (onceM l.length k y v) (n.toNat, l) ⟨rfl, hok.1⟩).1; omega
  rcases hp : (onceM l.length k y v).run rdP wrP l with ⟨⟨x1, e1⟩, l1⟩
  rcases hq : (onceM l.length k y v).run (rdF rdP) (wrF wrP) (n.toNat, l) with ⟨⟨x2, e2⟩, n2, l2⟩
  rw [hp, hq] at hst
  rw [hp] at hlen
  rw [hq] at hlenF
  dsimp only at hst hlen hlenF
  conv => whnf
  repeat (first | ((with_reducible refine CW.is ?_); refine CW.run rfl ?_; conv => whnf) | ((with_reducible refine LdN.is ?_); refine Sat.ldN 2 h rfl _ rfl rfl ?_; conv => whnf))
  refine (once3_any (plainMem p) G (k, y, v, t, ago) hx).callE hp (h.front 1 rfl) ⟨rfl, hok.1⟩ (Try.call54 _ _) fun w h => ?_
  conv => whnf
  skip
  refine Sat.newK h fun X w h => ?_
  conv => whnf
  repeat (first | ((with_reducible refine CW.is ?_); refine CW.run rfl ?_; conv => whnf) | ((with_reducible refine LdN.is ?_); refine Sat.ldN 3 h rfl _ rfl rfl ?_; conv => whnf) | ((with_reducible refine Runs.is ?_); refine Sat.store 0 h rfl rfl rfl rfl rfl ?_; (conv => whnf); intro w h; (conv => whnf)))
  refine (once3_any (fusedMem (plainMem q) u) GF (k, y, v, t, ago) hx).callE hq (h.front 2 rfl) ⟨rfl, hok.1⟩ (Try.call54 _ _) fun w h => ?_
  clear hp hq
  conv => whnf
  repeat (refine Wr.any ?_; conv => whnf)
  refine h.newK fun Y w h => ?_
  conv => whnf
  repeat (refine Wr.any ?_; conv => whnf)
  refine h.store 0 rfl rfl rfl rfl rfl ?_
  conv => whnf
  repeat (refine Wr.any ?_; conv => whnf)
  intro w h
  conv => whnf
  repeat (refine Wr.any ?_; conv => whnf)
  generalize eB : row A 75 _ = Bx at h
  replace h : Sat β w [row Y 33 [.int .i64 x2.1, .int .i64 x2.2], Fused u 26 (ptr q) (Plain q) (n2, l2), row X 33 [.int .i64 x1.1, .int .i64 x1.2], Plain p l1, Bx] := h.keep [0, 1, 2, 3, 4]
  refine CW.join [5, 8, 10, 13, 14, 15, 16, 17] (fun vs w => ∃ st : Bool, ((e2 = 41 ∧ x2 = (0, 0)) ∧ n2 = 0 → st = true) ∧ vs = [ptr A, ptr p, ptr q, ptr X, .int .i64 e1, ptr Y, .int .i64 e2, .bool st] ∧
    Sat β w [row Y 33 [.int .i64 x2.1, .int .i64 x2.2], Fused u 26 (ptr q) (Plain q) (n2, l2), row X 33 [.int .i64 x1.1, .int .i64 x1.2], Plain p l1, Bx]) ?_ ?_
  · conv => whnf
    skip
    refine sel_mk (fun h1 => ?_) (fun h1 => ?_)
    · conv => whnf
      skip
      refine CallF.val (left_any β w _ (h.front 1 rfl)) (Try.call22 _ _) fun w h => ?_
      conv => whnf
      skip
      refine sel_mk (fun h2 => ?_) (fun h2 => ?_)
      · conv => whnf
        repeat (first | ((with_reducible refine LdN.is ?_); refine Sat.ldN 1 h rfl _ rfl rfl ?_; conv => whnf) | ((with_reducible refine EqP.is ?_); refine eqN (xs := (_, _)) (ys := (_, _)) ?_; conv => whnf))
        exact ⟨_, fun hh => by simp [hh.1.2], rfl, h.keep [1, 0, 2, 3, 4]⟩
      · conv => whnf
        skip
        exact ⟨_, fun hh => absurd hh.2 (by simp at h2; omega), rfl, h.keep [1, 0, 2, 3, 4]⟩
    · conv => whnf
      skip
      exact ⟨_, fun hh => absurd hh.1.1 (by simpa using h1), rfl, h⟩
  clear h
  rintro _ w ⟨st, hst2, rfl, h⟩
  obtain ⟨_, h⟩ := Sat.fused.1 (h.front 1 rfl)
  replace h : Sat β w [row Y 33 [.int .i64 x2.1, .int .i64 x2.2], row X 33 [.int .i64 x1.1, .int .i64 x1.2], Plain p l1, Plain q l2, Bx] := h.keep [2, 3, 4, 1, 5]
  conv => whnf
  repeat (refine Wr.any ?_; conv => whnf)
  refine CW.join [5, 17, 18] (fun vs w => ∃ wh : Bool, (st = true ∨ wh = true) ∧ vs = [ptr A, .bool st, .bool wh] ∧ Sat β w [Bx]) ?_ ?_
  · have hor : ¬ (x2 = x1 ∧ e2 = e1 ∧ l2 = l1) → st = true := by
      intro hne
      rcases hst with ⟨h1, h2⟩ | h1
      · simp only [Prod.mk.injEq] at h1
        exact absurd ⟨h1.1, h1.2, h2⟩ hne
      · exact hst2 h1
    conv => whnf
    repeat (first | ((with_reducible refine LdN.is ?_); (first | refine Sat.ldN 0 h rfl _ rfl rfl ?_ | refine Sat.ldN 1 h rfl _ rfl rfl ?_); conv => whnf) | ((with_reducible refine EqP.is ?_); refine eqN (xs := (_, _)) (ys := (_, _)) ?_; conv => whnf))
    refine sel_mk (fun h1 => ?_) (fun h1 => ?_)
    rotate_left
    · conv => whnf
      skip
      exact ⟨_, .inl (hor fun hh => by simp [hh.1] at h1), rfl, h.keep [4]⟩
    conv => whnf
    skip
    refine sel_mk (fun h2 => ?_) (fun h2 => ?_)
    rotate_left
    · conv => whnf
      skip
      exact ⟨_, .inl (hor fun hh => by simp [hh.2.1] at h2), rfl, h.keep [4]⟩
    conv => whnf
    skip
    refine CallF.ret (memAll_any (b := p) (l := l1) (by omega) β w _ (h.front 2 rfl)) (Try.call21 _ _) ?_
    rintro _ w ⟨a4, c4, rfl, h⟩
    refine ⟨_, rfl, ?_⟩
    conv => whnf
    skip
    refine CallF.ret (memAll_any (b := q) (l := l2) (by omega) β w _ (h.front 4 rfl)) (Try.call21 _ _) ?_
    rintro _ w ⟨a5, c5, rfl, h⟩
    refine ⟨_, rfl, ?_⟩
    conv => whnf
    skip
    refine CallF.val (same_any (by omega) β w _ h (h.rds 2 rfl) (h.rds 0 rfl)) (Try.call24 _ _) fun w h => ?_
    conv => whnf
    skip
    refine ⟨_, ?_, rfl, h.keep [6]⟩
    by_cases hc : l1 = l2
    · exact .inr (by simp [hc])
    · exact .inl (hor fun hh => hc hh.2.2.symm)
  clear h
  rintro _ w ⟨wh, hor, rfl, h⟩
  subst eB
  conv => whnf
  repeat (first | ((with_reducible refine CW.is ?_); refine CW.run rfl ?_; conv => whnf))
  refine (new_nil (0, 0)).call h (Try.call45 _ _) fun w h => ?_
  conv => whnf
  repeat (first | ((with_reducible refine CW.is ?_); refine CW.run rfl ?_; conv => whnf) | ((with_reducible refine New.is ?_); refine Sat.newK h fun b w h => ?_; conv => whnf) | ((with_reducible refine Runs.is ?_); refine Sat.store 0 h rfl rfl rfl rfl rfl ?_; (conv => whnf); intro w h; (conv => whnf)))
  refine (load_nil (0, 0)).call h (Try.call48 _ _) fun w h => ?_
  conv => whnf
  repeat (first | ((with_reducible refine CW.is ?_); refine CW.run rfl ?_; conv => whnf) | ((with_reducible refine New.is ?_); refine Sat.newK h fun b w h => ?_; conv => whnf) | ((with_reducible refine Runs.is ?_); refine Sat.store 0 h rfl rfl rfl rfl rfl ?_; (conv => whnf); intro w h; (conv => whnf)))
  refine count_nil.call h (Try.call49 _ _) fun w h => ?_
  conv => whnf
  repeat (first | ((with_reducible refine CW.is ?_); refine CW.run rfl ?_; conv => whnf))
  refine alive3_any.call h (Try.call43 _ _) fun w h => ?_
  have fin : ∀ (st wh : Bool), (st = true ∨ wh = true) → (st = true) ∨ (st = false ∧ wh = true) := by decide
  rcases fin st wh hor with rfl | ⟨rfl, rfl⟩
  all_goals
    conv => whnf
    repeat (first | ((with_reducible refine LdN.is ?_); refine Sat.ldN 2 h rfl _ rfl rfl ?_; conv => whnf))
    refine (del_nil y).call h (Try.call46 _ _) fun w h => ?_
    conv => whnf
    repeat (first | ((with_reducible refine LdN.is ?_); refine Sat.ldN 2 h rfl _ rfl rfl ?_; conv => whnf))
    refine (store_nil y).call h (Try.call47 _ _) fun w h => ?_
    conv => whnf
    repeat (first | ((with_reducible refine CW.is ?_); refine CW.run rfl ?_; conv => whnf))
    exact ⟨rfl, h.drop⟩
end Go.Ev
