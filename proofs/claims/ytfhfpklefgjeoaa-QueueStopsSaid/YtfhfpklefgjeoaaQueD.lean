/- A row of little room: calls on a memory that stops. Conditions: none. -/
import Derived.Test.YtfhfpklefgjeoaaQueC
namespace Go.Ev
open Go Go.Proofs
set_option maxRecDepth 10000
set_option maxHeartbeats 4000000

theorem reads_open {N : Int} : Reads (openM N) := by
  unfold openM
  split
  · trivial
  · intro x e
    dsimp only
    split
    · split <;> trivial
    · trivial
theorem strict_open {N : Int} : Strict (fun r => r.2.2 = 41) (openM N) := by
  unfold openM
  split
  · trivial
  · refine ⟨⟨_, rfl, rfl⟩, fun x e => ?_⟩
    dsimp only
    split
    · split <;> trivial
    · trivial
theorem strict_put {N : Int} {v : Num} {b : Bool} : Strict (fun r => r = 41) (putM N v b) := by
  unfold putM
  split
  · refine Strict.bind ?_ (fun r => ?_) _ strict_open
    · intro r hr
      rw [if_neg (by rw [hr]; decide)]
      exact ⟨_, rfl, hr⟩
    · split
      · split
        · trivial
        · refine ⟨⟨_, rfl, rfl⟩, fun e => ?_⟩
          dsimp only
          split
          · exact ⟨⟨_, rfl, rfl⟩, fun _ => trivial⟩
          · trivial
      · trivial
  · trivial
theorem strict_take {N : Int} {b : Bool} : Strict (fun r => r.2 = 41 ∧ r.1 = (0, 0)) (takeM N b) := by
  unfold takeM
  refine Strict.bind ?_ (fun r => ?_) _ strict_open
  · intro r hr
    rw [if_neg (by rw [hr]; decide)]
    exact ⟨_, rfl, hr, rfl⟩
  · split
    · split
      · trivial
      · refine ⟨⟨_, rfl, rfl, rfl⟩, fun x e => ?_⟩
        dsimp only
        split
        · refine ⟨⟨_, rfl, rfl, rfl⟩, fun e => ?_⟩
          dsimp only
          split <;> trivial
        · trivial
    · trivial
theorem strict_len {N : Int} : Strict (fun r => r.2 = 41 ∧ r.1 = 0) (lenM N) := by
  unfold lenM
  refine Strict.bind ?_ (fun r => ?_) _ strict_open
  · intro r hr
    rw [if_neg (by rw [hr]; decide)]
    exact ⟨_, rfl, hr, rfl⟩
  · split <;> trivial
theorem strict_at {N i : Int} : Strict (fun r => r.2 = 41 ∧ r.1 = (0, 0)) (atM N i) := by
  unfold atM
  refine Strict.bind ?_ (fun r => ?_) _ strict_open
  · intro r hr
    rw [if_neg (by rw [hr]; decide)]
    exact ⟨_, rfl, hr, rfl⟩
  · split
    · split
      · trivial
      · exact ⟨⟨_, rfl, rfl, rfl⟩, fun _ _ => trivial⟩
    · trivial
theorem strict_onceQ {N k i : Int} {v : Num} : Strict (fun r => r.2 = 41 ∧ r.1 = (0, 0)) (onceQ N k v i) := by
  unfold onceQ
  split
  · refine Strict.bind ?_ (fun a => ?_) _ strict_put
    · rintro a rfl; exact ⟨_, rfl, rfl, rfl⟩
    · trivial
  split
  · refine Strict.bind ?_ (fun a => ?_) _ strict_put
    · rintro a rfl; exact ⟨_, rfl, rfl, rfl⟩
    · trivial
  split
  · exact strict_take
  split
  · exact strict_take
  split
  · refine Strict.bind ?_ (fun a => ?_) _ strict_len
    · rintro ⟨a, b⟩ ⟨h1, h2⟩; exact ⟨_, rfl, h1, by simp only at h2; rw [h2]⟩
    · trivial
  · exact strict_at
theorem last0_of_reads {α : Type} : ∀ (p : MP α), Reads p → Last0 p
  | .ret _, _ => trivial
  | .rd _ k, h => fun x e => last0_of_reads _ (h x e)
  | .wr _ _ _, h => h.elim
theorem last0_put {N : Int} {v : Num} {b : Bool} : Last0 (putM N v b) := by
  unfold putM
  split
  · by_cases hN : N < 2
    · unfold openM
      rw [if_pos hN]
      simp only [MP.bind]
      rw [if_neg (by decide)]
      trivial
    · refine Reads.bind (fun r => ?_) _ reads_open
      by_cases h1 : r.2.2 = 0
      · rw [if_pos h1]
        by_cases h2 : r.2.1 = N - 1
        · rw [if_pos h2]; trivial
        · rw [if_neg h2]
          refine ⟨fun h0 => ?_, fun e => ?_⟩
          · have := Int.emod_nonneg (r.1 + (if b then -1 else r.2.1) + (N - 1)) (show N - 1 ≠ 0 by omega)
            omega
          · dsimp only
            by_cases he : e = 0
            · rw [if_pos he]
              exact ⟨fun _ e => ⟨_, rfl⟩, fun _ => trivial⟩
            · rw [if_neg he]; trivial
      · rw [if_neg h1]; trivial
  · trivial
theorem last0_take {N : Int} {b : Bool} : Last0 (takeM N b) := by
  unfold takeM
  refine Reads.bind (fun r => ?_) _ reads_open
  by_cases h1 : r.2.2 = 0
  · rw [if_pos h1]
    by_cases h2 : r.2.1 = 0
    · rw [if_pos h2]; trivial
    · rw [if_neg h2]
      intro x e
      dsimp only
      by_cases he : e = 0
      · rw [if_pos he]
        refine ⟨fun _ e => ?_, fun e => ?_⟩
        · dsimp only
          split <;> exact ⟨_, rfl⟩
        · dsimp only
          split <;> trivial
      · rw [if_neg he]; trivial
  · rw [if_neg h1]; trivial
theorem last0_bindRet {α γ : Type} {g : α → γ} (p : MP α) (h : Last0 p) : Last0 (p.bind fun r => .ret (g r)) := Last0.bind (f := fun r => .ret (g r)) (fun _ => trivial) (fun _ => ⟨_, rfl⟩) p h
theorem last0_onceQ {N k i : Int} {v : Num} : Last0 (onceQ N k v i) := by
  unfold onceQ
  split
  · exact last0_bindRet _ last0_put
  split
  · exact last0_bindRet _ last0_put
  split
  · exact last0_take
  split
  · exact last0_take
  split
  · unfold lenM
    refine last0_bindRet _ (Reads.bind (fun r => ?_) _ reads_open)
    split <;> trivial
  · unfold atM
    refine Reads.bind (fun r => ?_) _ reads_open
    split
    · split
      · trivial
      · exact fun _ _ => trivial
    · trivial

theorem lawQueueStops {β : World} {n : Int} (hn : okI n) {a : Option Addr} {c : Nat} {l : List Num} (hl : l.length ≤ 9223372036854775807) (hr : ∀ As, Rds β As 2 encN a l) (k : Int) (v : Num) (i : Int) :
    ∀ w, Sat β w [] → Calls Try.prog 12 #[.slice a l.length c, .int .i64 n, wA5 k v i] w fun e w' => e = .returned (.bool true) ∧ Sat β w' [] := by
  intro w h
  refine calls_W (args := [.slice a l.length c, .int .i64 n, wA5 k v i]) Try.func12 rfl rfl rfl ?_
  have r2 := fun w As h => ref2Right_any (c := c) hl β w As h (hr As)
  generalize e0 : (l.all rightN && decide (l.length ≤ 4096)) = ok at r2
  conv => whnf
  skip
  refine Sat.newK h fun A w h => ?_
  conv => whnf
  repeat (first | ((with_reducible refine CW.is ?_); refine CW.run rfl ?_; conv => whnf))
  refine CallF.val (r2 w _ h) (Try.call14 _ _) fun w h => ?_
  conv => whnf
  repeat (first | ((with_reducible refine CW.is ?_); refine CW.go ?_; conv => whnf))
  refine sel_mk (fun h1 => ?_) (fun h1 => ?_)
  · conv => whnf
    repeat (first | ((with_reducible refine CW.is ?_); refine CW.run rfl ?_; conv => whnf))
    refine alive5_any.call h (Try.call38 _ _) fun w h => ?_
    conv => whnf
    repeat (first | ((with_reducible refine CW.is ?_); refine CW.run rfl ?_; conv => whnf))
    exact ⟨rfl, h.drop⟩
  obtain rfl : ok = true := by simpa using h1
  have hok : l.all rightN = true ∧ l.length ≤ 4096 := by simpa [Bool.and_eq_true] using e0
  conv => whnf
  repeat (first | ((with_reducible refine CW.is ?_); refine CW.run rfl ?_; conv => whnf))
  refine sel_mk (fun h1 => ?_) (fun h1 => ?_)
  · conv => whnf
    repeat (first | ((with_reducible refine CW.is ?_); refine CW.run rfl ?_; conv => whnf))
    refine alive5_any.call h (Try.call38 _ _) fun w h => ?_
    conv => whnf
    repeat (first | ((with_reducible refine CW.is ?_); refine CW.run rfl ?_; conv => whnf))
    exact ⟨rfl, h.drop⟩
  have hs : l.length ≤ 150 := by simp at h1; omega
  conv => whnf
  repeat (first | ((with_reducible refine CW.is ?_); refine CW.run rfl ?_; conv => whnf))
  refine CallF.ret (memLoad_any hok.1 hok.2 β w _ h (hr _)) (Try.call16 _ _) ?_
  rintro _ w ⟨p, rfl, h⟩
  refine ⟨_, rfl, ?_⟩
  conv => whnf
  repeat (first | ((with_reducible refine CW.is ?_); refine CW.run rfl ?_; conv => whnf))
  refine CallF.ret (memLoad_any hok.1 hok.2 β w _ h (hr _)) (Try.call16 _ _) ?_
  rintro _ w ⟨q, rfl, h⟩
  refine ⟨_, rfl, ?_⟩
  conv => whnf
  repeat (first | ((with_reducible refine CW.is ?_); (first | refine CW.run rfl ?_ | refine CW.go ?_); conv => whnf))
  refine CallF.ret (fuse_any (T := 26) (u := ptr q) (R := Plain q) n (by have := hn.2; omega) β w _ h) (Try.call17 _ _) ?_
  rintro _ w ⟨u, rfl, h⟩
  refine ⟨_, rfl, ?_⟩
  have G := goodP (N := l.length) (by omega) (by omega)
  have GF := goodF G
  have hst := Last0.stops _ (strict_onceQ (N := l.length) (k := k) (v := v) (i := i)) last0_onceQ n.toNat l
  have hlen : ((onceQ l.length k v i).run rdP wrP l).2.length = l.length := by have := (G.run (onceQ l.length k v i) l ⟨rfl, hok.1⟩).1; omega
  have hlenF : ((onceQ l.length k v i).run (rdF rdP) (wrF wrP) (n.toNat, l)).2.2.length = l.length := by have := (GF.run (onceQ l.length k v i) (n.toNat, l) ⟨rfl, hok.1⟩).1; omega
  rcases hp : (onceQ l.length k v i).run rdP wrP l with ⟨⟨x1, e1⟩, l1⟩
  rcases hq : (onceQ l.length k v i).run (rdF rdP) (wrF wrP) (n.toNat, l) with ⟨⟨x2, e2⟩, n2, l2⟩
  rw [hp, hq] at hst
  rw [hp] at hlen
  rw [hq] at hlenF
  dsimp only at hst hlen hlenF
  conv => whnf
  repeat (first | ((with_reducible refine CW.is ?_); refine CW.run rfl ?_; conv => whnf) | ((with_reducible refine LdN.is ?_); refine Sat.ldN 2 h rfl _ rfl rfl ?_; conv => whnf))
  refine (onceQ_any (plainMem p) G k v i).callE hp (h.front 1 rfl) ⟨rfl, hok.1⟩ (Try.call40 _ _) fun w h => ?_
  conv => whnf
  skip
  refine Sat.newK h fun X w h => ?_
  conv => whnf
  repeat (first | ((with_reducible refine CW.is ?_); refine CW.run rfl ?_; conv => whnf) | ((with_reducible refine LdN.is ?_); refine Sat.ldN 3 h rfl _ rfl rfl ?_; conv => whnf) | ((with_reducible refine Runs.is ?_); refine Sat.store 0 h rfl rfl rfl rfl rfl ?_; (conv => whnf); intro w h; (conv => whnf)))
  refine (onceQ_any (fusedMem (plainMem q) u) GF k v i).callE hq (h.front 2 rfl) ⟨rfl, hok.1⟩ (Try.call40 _ _) fun w h => ?_
  clear hp hq
  conv => whnf
  repeat (refine Wr.any ?_; conv => whnf)
  refine h.newK fun Y w h => ?_
  conv => whnf
  repeat (refine Wr.any ?_; conv => whnf)
  refine h.store 0 rfl rfl rfl rfl rfl ?_
  conv => whnf
  repeat (refine Wr.any ?_; conv => whnf)
  intro w h
  generalize eB : row A 61 _ = Bx at h
  replace h : Sat β w [row Y 33 [.int .i64 x2.1, .int .i64 x2.2], Fused u 26 (ptr q) (Plain q) (n2, l2), row X 33 [.int .i64 x1.1, .int .i64 x1.2], Plain p l1, Bx] := h.keep [0, 1, 2, 3, 4]
  obtain ⟨hn2, h⟩ := Sat.fused.1 (h.front 1 rfl)
  replace h : Sat β w [Plain q l2, row u 99 [.iface 26 (ptr q), .int .i64 n2], row Y 33 [.int .i64 x2.1, .int .i64 x2.2], row X 33 [.int .i64 x1.1, .int .i64 x1.2], Plain p l1, Bx] := h.keep [1, 0, 2, 3, 4, 5]
  have rq := read_any (b := q) (l := l2) 0 β
  have hd : ∀ (h0 : 0 < l.length), rdN l2 0 = rdN l 0 → (rdN l2 0).1 = gN l 0 := by
    intro h0 he
    rw [he]
    have := rdP_in (l := l) (i := 0) (by omega) (by omega)
    simp only [rdP, Prod.mk.injEq, and_true] at this
    rw [this]
  generalize rdN l2 0 = hv at rq hd hst
  obtain ⟨y, ye⟩ := hv
  conv => whnf
  repeat (first | ((with_reducible refine CW.is ?_); refine CW.run rfl ?_; conv => whnf))
  refine CallF.val (rq w _ h) (Try.call30 _ _) fun w h => ?_
  conv => whnf
  repeat (refine Wr.any ?_; conv => whnf)
  refine h.newK fun Z w h => ?_
  conv => whnf
  repeat (refine Wr.any ?_; conv => whnf)
  refine h.store 0 rfl rfl rfl rfl rfl ?_
  conv => whnf
  repeat (refine Wr.any ?_; conv => whnf)
  intro w h
  replace h : Sat β w [row Y 33 [.int .i64 x2.1, .int .i64 x2.2], Fused u 26 (ptr q) (Plain q) (n2, l2), row X 33 [.int .i64 x1.1, .int .i64 x1.2], Plain p l1, Bx, row Z 33 [.int .i64 y.1, .int .i64 y.2]] :=
    Sat.bring [1, 0, 2, 3, 4, 5] (Sat.fused.2 ⟨hn2, h.bring [2, 1, 3, 4, 5, 6, 0]⟩)
  conv => whnf
  repeat (first | (refine CW.run rfl ?_; conv => whnf) | (refine CW.go ?_; conv => whnf) | (refine Wr.any ?_; conv => whnf))
  refine CW.joinT [5, 8, 10, 13, 14, 15, 16, 19] (fun vs w => ∃ st : Bool, (¬ ((x2, e2) = (x1, e1) ∧ l2 = l1) → st = true) ∧ vs = [ptr A, ptr p, ptr q, ptr X, .int .i64 e1, ptr Y, .int .i64 e2, .bool st] ∧
    Sat β w [row Y 33 [.int .i64 x2.1, .int .i64 x2.2], Fused u 26 (ptr q) (Plain q) (n2, l2), row X 33 [.int .i64 x1.1, .int .i64 x1.2], Plain p l1, Bx]) ?_ ?_
  · have no : ¬ ((e2 = 41 ∧ x2 = (0, 0)) ∧ n2 = 0 ∧ (y, ye) = rdN l 0) → ∀ b : Bool, (¬ ((x2, e2) = (x1, e1) ∧ l2 = l1) → b = true) := by
      intro hno b hb
      rcases hst with h1 | h1
      · exact absurd h1 hb
      · exact absurd h1 hno
    conv => whnf
    repeat (first | ((with_reducible refine CW.is ?_); refine CW.draw (id := 12) [(0, 0), (1, 0), (2, 0), (3, 0), (4, 3), (5, 0), (6, 0), (7, 0), (8, 4), (9, 0), (10, 3), (11, 0), (12, 0), (13, 0), (14, 0), (15, 0), (16, 0), (17, 4), (18, 0), (19, 0), (20, 4), (21, 3), (22, 0), (23, 0), (24, 0)] rfl (by kernel_rfl) (fun _ => True) (fun w e1 e2 e3 e4 => ⟨trivial, ?_⟩); replace h := h.draw e1 e2 e3 e4; clear e1 e2 e3 e4; (conv => whnf)))
    refine sel_mk (fun h1 => ?_) (fun h1 => ?_)
    rotate_left
    · conv => whnf
      skip
      exact ⟨_, no (fun hh => by simp [hh.1.1] at h1) _, rfl, h.keep [0, 1, 2, 3, 4]⟩
    conv => whnf
    skip
    refine CallF.val (left_any β w _ (h.front 1 rfl)) (Try.call22 _ _) fun w h => ?_
    conv => whnf
    skip
    refine sel_mk (fun h2 => ?_) (fun h2 => ?_)
    rotate_left
    · conv => whnf
      skip
      exact ⟨_, no (fun hh => by rw [hh.2.1] at h2; simp at h2) _, rfl, h.keep [1, 0, 2, 3, 4]⟩
    conv => whnf
    repeat (first | ((with_reducible refine LdN.is ?_); refine Sat.ldN 1 h rfl _ rfl rfl ?_; conv => whnf) | ((with_reducible refine EqP.is ?_); refine eqN (xs := (_, _)) (ys := (_, _)) ?_; conv => whnf))
    refine sel_mk (fun h3 => ?_) (fun h3 => ?_)
    rotate_left
    · conv => whnf
      skip
      exact ⟨_, no (fun hh => by simp [hh.1.2] at h3) _, rfl, h.keep [1, 0, 2, 3, 4]⟩
    conv => whnf
    skip
    refine sel_mk (fun h4 => ?_) (fun h4 => ?_)
    · conv => whnf
      skip
      exact ⟨_, fun _ => rfl, rfl, h.keep [1, 0, 2, 3, 4]⟩
    have h4 : 0 < l.length := by
      rcases Nat.eq_zero_or_pos l.length with h5 | h5
      · rw [h5] at h4; simp at h4
      · exact h5
    have hd := hd h4
    conv => whnf
    repeat (first | ((with_reducible refine Chk.is ?_); refine Rds.chkR (hr []) (by omega) (by omega) ?_; conv => whnf) | ((with_reducible refine LdN.is ?_); (first | refine Sat.ldN 5 h rfl _ rfl rfl ?_ | refine Rds.ldNR (hr _) h rfl (by omega) (by omega) ?_); conv => whnf) | ((with_reducible refine EqP.is ?_); refine eqN (xs := (_, _)) (ys := (_, _)) ?_; conv => whnf))
    refine ⟨_, ?_, rfl, h.keep [1, 0, 2, 3, 4]⟩
    intro hb
    rcases hst with h5 | h5
    · exact absurd h5 hb
    · obtain rfl : y = gN l 0 := hd h5.2.2
      exact decide_eq_true rfl
  clear h
  rintro _ w ⟨st, hst2, rfl, h⟩
  obtain ⟨_, h⟩ := Sat.fused.1 (h.front 1 rfl)
  replace h : Sat β w [row Y 33 [.int .i64 x2.1, .int .i64 x2.2], row X 33 [.int .i64 x1.1, .int .i64 x1.2], Plain p l1, Plain q l2, Bx] := h.keep [2, 3, 4, 1, 5]
  conv => whnf
  repeat (refine Wr.any ?_; conv => whnf)
  refine CW.join [5, 19, 20] (fun vs w => ∃ wh : Bool, (st = true ∨ wh = true) ∧ vs = [ptr A, .bool st, .bool wh] ∧ Sat β w [Bx]) ?_ ?_
  · have hor : ¬ (x2 = x1 ∧ e2 = e1 ∧ l2 = l1) → st = true := by
      intro hne
      refine hst2 fun hh => hne ?_
      simp only [Prod.mk.injEq] at hh
      exact ⟨hh.1.1, hh.1.2, hh.2⟩
    conv => whnf
    repeat (first | ((with_reducible refine LdN.is ?_); (first | refine Sat.ldN 0 h rfl _ rfl rfl ?_ | refine Sat.ldN 1 h rfl _ rfl rfl ?_); conv => whnf) | ((with_reducible refine EqP.is ?_); refine eqN (xs := (_, _)) (ys := (_, _)) ?_; conv => whnf))
    refine sel_mk (fun h1 => ?_) (fun h1 => ?_)
    rotate_left
    · conv => whnf
      skip
      exact ⟨_, .inl (hor fun hh => by simp [hh.1] at h1), rfl, h.keep [4]⟩
    conv => whnf
    skip
    refine sel_mk (fun h2 => ?_) (fun h2 => ?_)
    rotate_left
    · conv => whnf
      skip
      exact ⟨_, .inl (hor fun hh => by simp [hh.2.1] at h2), rfl, h.keep [4]⟩
    conv => whnf
    skip
    refine CallF.ret (memAll_any (b := p) (l := l1) (by omega) β w _ (h.front 2 rfl)) (Try.call21 _ _) ?_
    rintro _ w ⟨a4, c4, rfl, h⟩
    refine ⟨_, rfl, ?_⟩
    conv => whnf
    skip
    refine CallF.ret (memAll_any (b := q) (l := l2) (by omega) β w _ (h.front 4 rfl)) (Try.call21 _ _) ?_
    rintro _ w ⟨a5, c5, rfl, h⟩
    refine ⟨_, rfl, ?_⟩
    conv => whnf
    skip
    refine CallF.val (same_any (by omega) β w _ h (h.rds 2 rfl) (h.rds 0 rfl)) (Try.call24 _ _) fun w h => ?_
    conv => whnf
    skip
    refine ⟨_, ?_, rfl, h.keep [6]⟩
    by_cases hc : l1 = l2
    · exact .inr (by simp [hc])
    · exact .inl (hor fun hh => hc hh.2.2.symm)
  clear h
  rintro _ w ⟨wh, hor, rfl, h⟩
  subst eB
  conv => whnf
  repeat (first | ((with_reducible refine CW.is ?_); refine CW.run rfl ?_; conv => whnf) | ((with_reducible refine LdN.is ?_); refine Sat.ldN 0 h rfl _ rfl rfl ?_; conv => whnf) | ((with_reducible refine Runs.is ?_); refine Sat.store 0 h rfl rfl rfl rfl rfl ?_; (conv => whnf); intro w h; (conv => whnf)))
  refine (onceQ_nil k i).call h (Try.call40 _ _) fun w h => ?_
  conv => whnf
  repeat (first | ((with_reducible refine CW.is ?_); refine CW.run rfl ?_; conv => whnf) | ((with_reducible refine New.is ?_); refine Sat.newK h fun b w h => ?_; conv => whnf) | ((with_reducible refine Runs.is ?_); refine Sat.store 0 h rfl rfl rfl rfl rfl ?_; (conv => whnf); intro w h; (conv => whnf)))
  refine alive5_any.call h (Try.call38 _ _) fun w h => ?_
  have fin : ∀ (st wh : Bool), (st = true ∨ wh = true) → (st = true) ∨ (st = false ∧ wh = true) := by decide
  rcases fin st wh hor with rfl | ⟨rfl, rfl⟩
  all_goals
    conv => whnf
    repeat (first | ((with_reducible refine CW.is ?_); refine CW.run rfl ?_; conv => whnf))
    exact ⟨rfl, h.drop⟩
end Go.Ev
