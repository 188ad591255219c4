/- A row: the law. Conditions: none. -/
import Derived.Test.YtfhfpklefgjeoaaQueI
import Derived.Test.YtfhfpklefgjeoaaQueG
namespace Go.Ev
open Go Go.Proofs
set_option maxRecDepth 10000
set_option maxHeartbeats 1000000

theorem lawQueueRow {β : World} {room : Int} (h0 : 0 ≤ room) (h1 : room < 256) {a2 : Option Addr} {c2 : Nat} {L : List Act5} (hL : L.length ≤ 9223372036854775807) (hr2 : ∀ As, Rds β As 4 encA5 a2 L) (hb : ∀ x ∈ L, 0 ≤ x.1 ∧ okI x.2.2) :
    ∀ w, Sat β w [] → Calls Try.prog 6 #[.int .u8 room, .slice a2 L.length c2] w fun e w' => e = .returned (.bool true) ∧ Sat β w' [] := by
  intro w h
  refine calls_W (args := [.int .u8 room, .slice a2 L.length c2]) Try.func6 rfl rfl rfl ?_
  have hn : 0 ≤ room.tmod 150 ∧ room.tmod 150 < 150 := by
    rw [Int.tmod_eq_emod_of_nonneg h0]; omega
  conv => whnf
  repeat (first | ((with_reducible refine CW.is ?_); refine CW.run rfl ?_; conv => whnf) | ((with_reducible refine Wr.is ?_); refine Wr.i64 (by omega) (by omega) ?_; conv => whnf) | ((with_reducible refine Chk.is ?_); refine Chk.mk (by decide) ?_; conv => whnf))
  have hn2 : 0 < room.tmod 150 + 1 ∧ room.tmod 150 + 1 ≤ 150 := by omega
  generalize room.tmod 150 + 1 = n at *
  refine CallF.ret (memNew_any (n + 1) (by omega) (by omega) β w _ h) (Try.call33 _ _) ?_
  rintro _ w ⟨p, rfl, h⟩
  refine ⟨_, rfl, ?_⟩
  have r0 := rowOf0 hn2.1
  have ok0 : (List.replicate (n + 1).toNat ((0, 0) : Num)).all rightN = true := by
    rw [List.all_eq_true]
    intro x hx
    rw [List.eq_of_mem_replicate hx]
    decide
  generalize List.replicate (n + 1).toNat ((0, 0) : Num) = l0 at *
  conv => whnf
  repeat (first | ((with_reducible refine CW.is ?_); (first | refine CW.run rfl ?_ | refine CW.go ?_); conv => whnf))
  refine sel_mk (fun h1 => ?_) (fun h1 => ?_)
  · conv => whnf
    repeat (first | ((with_reducible refine CW.is ?_); refine CW.run rfl ?_; conv => whnf))
    refine alive5_any.call h (Try.call38 _ _) fun w h => ?_
    conv => whnf
    repeat (first | ((with_reducible refine CW.is ?_); refine CW.run rfl ?_; conv => whnf))
    exact ⟨rfl, h.drop⟩
  have hsL : L.length ≤ 150 := by simp at h1; omega
  conv => whnf
  repeat (first | ((with_reducible refine CW.is ?_); refine CW.run rfl ?_; conv => whnf))
  refine CW.loop [1, 5, 6, 8, 9] (fun m vs w => ∃ (j : Nat) (cur r : List Num) (a' : Option Addr) (c' : Nat) (F : Asrt), j ≤ L.length ∧ m = L.length - j ∧ RowOf n cur r ∧ cur.all rightN = true ∧ r.length ≤ c' ∧
    vs = [.slice a2 L.length c2, .int .i64 n, ptr p, .slice a' r.length c', .int .i64 j] ∧ Sat β w [F, Plain p cur] ∧ Rds β [F] 2 encN a' r) ?_ ?_
  · conv => whnf
    skip
    exact ⟨_, 0, l0, [], none, 0, Bag [], Nat.zero_le _, rfl, r0, ok0, Nat.le_refl _, rfl, (Sat.bag.1 h).bring [1, 0], Rds.nil⟩
  clear h
  rintro _ _ w ⟨j, cur, r, a', c', F, hj, rfl, hrow, hcok, hc', rfl, h, hrr⟩
  have hcl : cur.length ≤ 4096 := by have := hrow.len; omega
  have hrl : r.length ≤ 150 := by have := hrow.le; omega
  have G := goodP (N := cur.length) (by have := hrow.len; omega) (by omega)
  conv => whnf
  repeat (first | ((with_reducible refine CW.is ?_); (first | refine CW.run rfl ?_ | refine CW.go ?_); conv => whnf))
  refine sel_mk (fun h1 => ?_) (fun h1 => ?_)
  · have hlt : j < L.length := by simpa using h1
    have hx := List.getElem?_eq_getElem hlt
    have hbx := hb _ (List.getElem_mem hlt)
    generalize L[j] = x at hx hbx
    obtain ⟨kk, v, i⟩ := x
    dsimp only at hbx
    have sl := stepR_len (k := kk) (v := v) (i := i) hrow.le
    obtain ⟨l', hrun, hrow'⟩ := once_row hrow hcl hbx.1 v i
    have hcok' : l'.all rightN = true := by
      have := (G.run (onceQ cur.length kk v i) cur ⟨rfl, hcok⟩).2
      rwa [hrun] at this
    have cs := step5_any (n := n) (k := kk) (v := v) (i := i) hbx.1 hbx.2 (a := a') (c := c') hrl hc'
    generalize stepR n r kk v i = s at *
    obtain ⟨r', x, e⟩ := s
    dsimp only at *
    conv => whnf
    repeat (first | ((with_reducible refine CW.is ?_); (first | refine CW.run rfl ?_ | refine CW.go ?_); conv => whnf))
    refine Chk.mk ⟨by omega, by omega, (hr2 []).okLt hlt⟩ ?_
    conv => whnf
    skip
    refine (hr2 _).ldN (i := j) h hx rfl (by simp) ?_
    conv => whnf
    skip
    refine CallF.ret (cs β w _ _ h hrr) (Try.call39 _ _) ?_
    rintro _ w ⟨a'', c'', F', rfl, hc'', h, hrr'⟩
    refine ⟨_, rfl, ?_⟩
    conv => whnf
    skip
    refine Sat.newK h fun X w h => ?_
    conv => whnf
    repeat (first | ((with_reducible refine CW.is ?_); refine CW.run rfl ?_; conv => whnf) | ((with_reducible refine Runs.is ?_); refine Sat.store 0 h rfl rfl rfl rfl rfl ?_; (conv => whnf); intro w h; (conv => whnf)))
    refine Chk.mk ⟨by omega, by omega, (hr2 []).okLt hlt⟩ ?_
    conv => whnf
    skip
    refine (hr2 _).ldN (i := j) h hx rfl (by simp) ?_
    conv => whnf
    skip
    refine (onceQ_any (plainMem p) G kk v i).callE hrun (h.front 2 rfl) ⟨rfl, hcok⟩ (Try.call40 _ _) fun w h => ?_
    conv => whnf
    skip
    refine Sat.newK h fun Y w h => ?_
    conv => whnf
    repeat (first | ((with_reducible refine CW.is ?_); refine CW.go ?_; conv => whnf) | ((with_reducible refine LdN.is ?_); (first | refine Sat.ldN 0 h rfl _ rfl rfl ?_ | refine Sat.ldN 2 h rfl _ rfl rfl ?_); conv => whnf) | ((with_reducible refine EqP.is ?_); refine eqN (xs := (_, _)) (ys := (_, _)) ?_; conv => whnf) | ((with_reducible refine Runs.is ?_); refine Sat.store 0 h rfl rfl rfl rfl rfl ?_; (conv => whnf); intro w h; (conv => whnf)))
    rw [show (!decide ((x.1, x.2) = (x.1, x.2))) = false by simp]
    conv => whnf
    repeat (first | ((with_reducible refine CW.is ?_); refine CW.run rfl ?_; conv => whnf))
    refine sel_false (by simp) ?_
    conv => whnf
    repeat (first | ((with_reducible refine CW.is ?_); refine CW.run rfl ?_; conv => whnf) | ((with_reducible refine Wr.is ?_); refine Wr.i64 (by omega) (by omega) ?_; conv => whnf))
    exact ⟨_, by omega, j + 1, l', r', a'', c'', F', by omega, rfl, hrow', hcok', hc'', rfl, h.keep [3, 1], hrr'⟩
  · conv => whnf
    repeat (first | ((with_reducible refine CW.is ?_); refine CW.run rfl ?_; conv => whnf))
    refine CW.loop [6, 8, 15] (fun m vs w => ∃ q : Nat, q ≤ r.length ∧ m = r.length - q ∧ vs = [ptr p, .slice a' r.length c', .int .i64 q] ∧ Sat β w [F, Plain p cur]) ?_ ?_
    · conv => whnf
      skip
      exact ⟨_, 0, Nat.zero_le _, rfl, rfl, h⟩
    clear h
    rintro _ _ w ⟨q, hq, rfl, rfl, h⟩
    conv => whnf
    repeat (first | ((with_reducible refine CW.is ?_); (first | refine CW.run rfl ?_ | refine CW.go ?_); conv => whnf))
    refine sel_mk (fun h2 => ?_) (fun h2 => ?_)
    · have hlt : q < r.length := by simpa using h2
      have ha : (atM cur.length q).run rdP wrP cur = ((gN r q, 0), cur) := by rw [at_plain, hrow.atL (by omega) (by omega)]
      have hg := gN_get (l := r) (n := q) (by omega) (by omega)
      generalize gN r q = x at ha hg
      conv => whnf
      repeat (first | ((with_reducible refine CW.is ?_); (first | refine CW.run rfl ?_ | refine CW.go ?_); conv => whnf))
      refine (atM_any (plainMem p) G q).callE ha (h.front 1 rfl) ⟨rfl, hcok⟩ (Try.call41 _ _) fun w h => ?_
      conv => whnf
      skip
      refine Sat.newK h fun X w h => ?_
      conv => whnf
      repeat (first | ((with_reducible refine CW.is ?_); refine CW.run rfl ?_; conv => whnf) | ((with_reducible refine Runs.is ?_); refine Sat.store 0 h rfl rfl rfl rfl rfl ?_; (conv => whnf); intro w h; (conv => whnf)))
      replace h : Sat β w [row X 33 [.int .i64 x.1, .int .i64 x.2], F, Plain p cur] := h.keep [0, 2, 1]
      refine CW.draw (id := 18) [(0, 0), (1, 0), (2, 0), (3, 4), (4, 0), (5, 0), (6, 0), (7, 4), (8, 3), (9, 0)] rfl (by kernel_rfl) (fun u => Sat β u [row X 33 [.int .i64 x.1, .int .i64 x.2], F]) (fun w e1 e2 e3 e4 => ⟨(h.draw e1 e2 e3 e4).keep [0, 1], ?_⟩)
      replace h := h.draw e1 e2 e3 e4
      clear e1 e2 e3 e4
      conv => whnf
      repeat (first | ((with_reducible refine LdN.is ?_); refine Sat.ldN 0 h rfl _ rfl rfl ?_; conv => whnf))
      refine Chk.mk ⟨by omega, by omega, hrr.okLt hlt⟩ ?_
      conv => whnf
      repeat (refine Wr.any ?_; conv => whnf)
      refine Rds.ldN (i := q) (hrr.weak (Bs := [row X 33 [.int .i64 x.1, .int .i64 x.2], F, Plain p cur]) fun w h => h.keep [1]) h hg rfl rfl ?_
      conv => whnf
      repeat (first | ((with_reducible refine CW.is ?_); refine CW.run rfl ?_; conv => whnf) | ((with_reducible refine EqP.is ?_); refine eqN (xs := (_, _)) (ys := (_, _)) ?_; conv => whnf))
      refine sel_false (by simp) ?_
      conv => whnf
      repeat (first | ((with_reducible refine CW.is ?_); refine CW.run rfl ?_; conv => whnf) | ((with_reducible refine Wr.is ?_); refine Wr.i64 (by omega) (by omega) ?_; conv => whnf))
      exact ⟨_, by omega, q + 1, by omega, rfl, rfl, h.keep [1, 2]⟩
    · conv => whnf
      repeat (first | ((with_reducible refine CW.is ?_); refine CW.run rfl ?_; conv => whnf))
      refine alive5_any.call h (Try.call38 _ _) fun w h => ?_
      conv => whnf
      repeat (first | ((with_reducible refine CW.is ?_); refine CW.run rfl ?_; conv => whnf))
      exact ⟨rfl, h.drop⟩
end Go.Ev
