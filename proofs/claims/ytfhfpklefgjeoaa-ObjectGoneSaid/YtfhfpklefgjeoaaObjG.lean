/- Things that come and go: the law. Conditions: none. -/
import Derived.Test.YtfhfpklefgjeoaaObjE
import Derived.Test.YtfhfpklefgjeoaaObjF
namespace Go.Ev
open Go Go.Proofs
set_option maxRecDepth 10000
set_option maxHeartbeats 8000000

/-- Some cells of an element. -/
theorem Rds.ldSub {α : Type} {β w : World} {As : List Asrt} {sz i j n q : Nat} {enc : α → List Value} {a : Option Addr} {l : List α} {x : α} {K : List Value → Prop} (hr : Rds β As sz enc a l) (hs : Sat β w As) (h : l[i]? = some x) (vs : List Value)
    (hv : ((enc x).drop j).take n = vs) (hl : vs.length = n) (hj : j + n ≤ sz) (hq : q = off a + i * sz + j) (k : K vs) : LdN w ⟨blk a, q, none⟩ n K := by
  subst hq
  refine .mk vs hl (fun m hm => ?_) k
  rw [Addr.add_none, Nat.add_assoc, (hr i x h).2 (j + m) (by omega) w hs, ← hv]
  simp [hm]
theorem Rds.ldSubG {α : Type} {β : World} {As : List Asrt} {sz i j n q : Nat} {enc : α → List Value} {a : Option Addr} {l : List α} {x : α} {K : List Value → Prop} (hr : Rds β As sz enc a l) (h : l[i]? = some x) (vs : List Value)
    (hv : ((enc x).drop j).take n = vs) (hl : vs.length = n) (hj : j + n ≤ sz) (hq : q = off a + i * sz + j) (k : K vs) : LdGN (fun u => Sat β u As) ⟨blk a, q, none⟩ n K := by
  subst hq
  refine .mk vs hl (fun u hu m hm => ?_) k
  rw [Addr.add_none, Nat.add_assoc, (hr i x h).2 (j + m) (by omega) u hu, ← hv]
  simp [hm]
def encB (b : Bool) : List Value := [.bool b]

theorem lawObjectGone {β : World} {cells : Int} (h0 : 0 ≤ cells) (h1 : cells < 256) {a : Option Addr} {c : Nat} {L : List Act3} (hL : L.length ≤ 9223372036854775807) (hr : ∀ As, Rds β As 7 encA3 a L) (hb : ∀ x ∈ L, 0 ≤ x.1 ∧ okI x.2.2.2.2) :
    ∀ w, Sat β w [] → Calls Try.prog 8 #[.int .u8 cells, .slice a L.length c] w fun e w' => e = .returned (.bool true) ∧ Sat β w' [] := by
  intro w h
  refine calls_W (args := [.int .u8 cells, .slice a L.length c]) Try.func8 rfl rfl rfl ?_
  have hn : 0 ≤ cells.tmod 150 ∧ cells.tmod 150 < 150 := by
    rw [Int.tmod_eq_emod_of_nonneg h0]; omega
  conv => whnf
  repeat (first | ((with_reducible refine CW.is ?_); refine CW.run rfl ?_; conv => whnf) | ((with_reducible refine Wr.is ?_); refine Wr.i64 (by omega) (by omega) ?_; conv => whnf) | ((with_reducible refine Chk.is ?_); refine Chk.mk (by decide) ?_; conv => whnf))
  generalize cells.tmod 150 = n at *
  refine CallF.ret (memNew_any n (by omega) (by omega) β w _ h) (Try.call33 _ _) ?_
  rintro _ w ⟨p, rfl, h⟩
  refine ⟨_, rfl, ?_⟩
  have r0 := gone0 (n := n.toNat)
  have ok0 : (List.replicate n.toNat ((0, 0) : Num)).all rightN = true := by
    rw [List.all_eq_true]
    intro x hx
    rw [List.eq_of_mem_replicate hx]
    decide
  have len0 : ((List.replicate n.toNat ((0, 0) : Num)).length : Int) = n := by simp; omega
  generalize List.replicate n.toNat ((0, 0) : Num) = l0 at *
  conv => whnf
  repeat (first | ((with_reducible refine CW.is ?_); (first | refine CW.run rfl ?_ | refine CW.go ?_); conv => whnf))
  refine sel_mk (fun h1 => ?_) (fun h1 => ?_)
  · conv => whnf
    repeat (first | ((with_reducible refine CW.is ?_); refine CW.run rfl ?_; conv => whnf))
    refine alive3_any.call h (Try.call43 _ _) fun w h => ?_
    conv => whnf
    repeat (first | ((with_reducible refine CW.is ?_); refine CW.run rfl ?_; conv => whnf))
    exact ⟨rfl, h.drop⟩
  have hsL : L.length ≤ 150 := by simp at h1; omega
  conv => whnf
  repeat (first | ((with_reducible refine CW.is ?_); refine CW.run rfl ?_; conv => whnf))
  refine CW.loop [1, 5, 7, 8, 9, 10] (fun m vs w => ∃ (j : Nat) (cur told has : List Num) (good : List Bool) (a1 a2 a3 : Option Addr) (c1 c2 c3 : Nat), j ≤ L.length ∧ m = L.length - j ∧ Gone cur told has good ∧ (cur.length : Int) = n ∧ cur.all rightN = true ∧ told.length ≤ j ∧
    vs = [.slice a L.length c, ptr p, .slice a1 told.length c1, .slice a2 has.length c2, .slice a3 good.length c3, .int .i64 j] ∧ Sat β w [Plain p cur, Own 33 2 encN a1 c1 told, Own 33 2 encN a2 c2 has, Own 4 1 encB a3 c3 good]) ?_ ?_
  · conv => whnf
    skip
    exact ⟨_, 0, l0, [], [], [], none, none, none, 0, 0, 0, Nat.zero_le _, rfl, r0, len0, ok0, Nat.le_refl _, rfl, (Sat.own_nil (Sat.own_nil (Sat.own_nil h))).keep [3, 0, 1, 2]⟩
  clear h
  rintro _ _ w ⟨j, cur, told, has, good, a1, a2, a3, c1, c2, c3, hj, rfl, g, hlen, hok, ht, rfl, h⟩
  have lh := g.lh
  have lg := g.lg
  have hcl : cur.length ≤ 4096 := by omega
  have G := goodP (N := cur.length) (by omega) (by omega)
  conv => whnf
  repeat (first | ((with_reducible refine CW.is ?_); (first | refine CW.run rfl ?_ | refine CW.go ?_); conv => whnf))
  refine sel_mk (fun h1 => ?_) (fun h1 => ?_)
  · have hlt : j < L.length := by simpa using h1
    have hx := List.getElem?_eq_getElem hlt
    have hbx := hb _ (List.getElem_mem hlt)
    generalize L[j] = x at hx hbx
    obtain ⟨kk, y, v, t, ago⟩ := x
    dsimp only at hbx
    have m2 := refRight_any v
    generalize hrv : rightN v = rv at m2
    conv => whnf
    repeat (first | ((with_reducible refine CW.is ?_); (first | refine CW.run rfl ?_ | refine CW.go ?_); conv => whnf))
    refine Chk.mk ⟨by omega, by omega, (hr []).okLt hlt⟩ ?_
    conv => whnf
    skip
    refine (hr _).ldSub h hx [.int .i64 v.1, .int .i64 v.2] rfl rfl (by omega) rfl ?_
    conv => whnf
    skip
    refine m2.call h (Try.call44 _ _) fun w h => ?_
    conv => whnf
    repeat (first | ((with_reducible refine CW.is ?_); refine CW.go ?_; conv => whnf))
    refine Chk.mk ⟨by omega, by omega, (hr []).okLt hlt⟩ ?_
    conv => whnf
    skip
    refine (hr _).ld (i := j) (j := 0) (v := .int .u8 kk) h hx (by omega) rfl rfl ?_
    conv => whnf
    repeat (first | ((with_reducible refine Chk.is ?_); refine Chk.mk (by decide) ?_; conv => whnf))
    by_cases hk1 : kk.tmod 2 = 0
    · rw [show decide (kk.tmod 2 = 0) = true from decide_eq_true hk1]
      conv => whnf
      repeat (first | ((with_reducible refine CW.is ?_); refine CW.run rfl ?_; conv => whnf))
      refine Chk.mk ⟨by omega, by omega, (hr []).okLt hlt⟩ ?_
      conv => whnf
      skip
      refine (hr _).ldSub h hx [.int .i64 v.1, .int .i64 v.2] rfl rfl (by omega) rfl ?_
      conv => whnf
      skip
      clear hb
      rcases newM_plain hok v with ⟨e, he, hrun⟩ | ⟨i, hi0, hi1, hz, hv, hrun⟩
      · have hd : decide (e = 0) = false := decide_eq_false he
        refine (newM_any (plainMem p) G v).callE hrun h ⟨rfl, hok⟩ (Try.call45 _ _) fun w h => ?_
        conv => whnf
        skip
        refine Sat.newK h fun H w h => ?_
        conv => whnf
        repeat (first | ((with_reducible refine CW.is ?_); (first | refine CW.run rfl ?_ | refine CW.go ?_); conv => whnf) | ((with_reducible refine Runs.is ?_); refine Sat.store 0 h rfl rfl rfl rfl rfl ?_; (conv => whnf); intro w h; (conv => whnf)))
        refine sel_false (by simp [he]) ?_
        conv => whnf
        repeat (first | ((with_reducible refine CW.is ?_); (first | refine CW.run rfl ?_ | refine CW.go ?_); conv => whnf))
        rw [hd]
        conv => whnf
        repeat (first | ((with_reducible refine CW.is ?_); refine CW.run rfl ?_; conv => whnf) | ((with_reducible refine Wr.is ?_); refine Wr.i64 (by omega) (by omega) ?_; conv => whnf))
        exact ⟨_, by omega, j + 1, cur, told, has, good, a1, a2, a3, c1, c2, c3, by omega, rfl, g, hlen, hok, by omega, rfl, h.keep [1, 2, 3, 4]⟩
      · have g' := g.new v hi0 hi1 hz
        have hok' := (G.run (newM cur.length v) cur ⟨rfl, hok⟩)
        rw [hrun] at hok'
        dsimp only at hok'
        generalize ((cur.set (2 * i).toNat ((gN cur (2 * i)).1 + 1, 1)).set (2 * i + 1).toNat v) = cur' at *
        generalize (gN cur (2 * i)).1 + 1 = age at *
        refine (newM_any (plainMem p) G v).callE hrun h ⟨rfl, hok⟩ (Try.call45 _ _) fun w h => ?_
        conv => whnf
        skip
        refine Sat.newK h fun H w h => ?_
        conv => whnf
        repeat (first | ((with_reducible refine CW.is ?_); (first | refine CW.run rfl ?_ | refine CW.go ?_); conv => whnf) | ((with_reducible refine LdN.is ?_); refine Sat.ldN 0 h rfl _ rfl rfl ?_; conv => whnf) | ((with_reducible refine Runs.is ?_); refine Sat.store 0 h rfl rfl rfl rfl rfl ?_; (conv => whnf); intro w h; (conv => whnf)))
        refine Sat.newK h fun Y w h => ?_
        conv => whnf
        skip
        refine Sat.append1 (l := told) (sz := 2) (enc := encN) (i, age) (h.bring [0, 3, 1, 2, 4, 5]) rfl rfl rfl rfl rfl (by decide) rfl rfl rfl (fun _ => rfl) (fun _ => rfl) (by show _ * 16 ≤ _; omega) fun b1 d1 w h => ?_
        conv => whnf
        repeat (first | ((with_reducible refine CW.is ?_); refine CW.run rfl ?_; conv => whnf))
        refine Chk.mk ⟨by omega, by omega, (hr []).okLt hlt⟩ ?_
        conv => whnf
        skip
        refine (hr _).ldSub h hx [.int .i64 v.1, .int .i64 v.2] rfl rfl (by omega) rfl ?_
        conv => whnf
        skip
        refine Sat.newK h fun Y2 w h => ?_
        conv => whnf
        skip
        refine Sat.append1 (l := has) (sz := 2) (enc := encN) v (h.bring [0, 4, 1, 2, 3, 5]) rfl rfl rfl rfl rfl (by decide) rfl rfl rfl (fun _ => rfl) (fun _ => rfl) (by show _ * 16 ≤ _; omega) fun b2 d2 w h => ?_
        conv => whnf
        repeat (first | ((with_reducible refine CW.is ?_); refine CW.run rfl ?_; conv => whnf))
        refine Sat.newK h fun Y3 w h => ?_
        conv => whnf
        skip
        refine Sat.append1 (l := good) (sz := 1) (enc := encB) true (h.bring [0, 5, 1, 2, 3, 4]) rfl rfl rfl rfl rfl (by decide) rfl rfl rfl (fun _ => rfl) (fun _ => rfl) (by show _ * 1 ≤ _; omega) fun b3 d3 w h => ?_
        conv => whnf
        repeat (first | ((with_reducible refine CW.is ?_); (first | refine CW.run rfl ?_ | refine CW.go ?_); conv => whnf))
        rw [hv] at hrv
        subst hrv
        conv => whnf
        repeat (first | ((with_reducible refine CW.is ?_); refine CW.run rfl ?_; conv => whnf) | ((with_reducible refine Wr.is ?_); refine Wr.i64 (by omega) (by omega) ?_; conv => whnf))
        have lc' := hok'.1
        exact ⟨_, by omega, j + 1, cur', told ++ [(i, age)], has ++ [v], good ++ [true], b1, b2, b3, d1, d2, d3, by omega, rfl, g', by omega, hok'.2, by simp; omega, by simp, h.keep [4, 2, 1, 0]⟩
    rw [show decide (kk.tmod 2 = 0) = false from decide_eq_false hk1]
    conv => whnf
    repeat (first | ((with_reducible refine CW.is ?_); refine CW.run rfl ?_; conv => whnf))
    refine sel_mk (fun h2 => ?_) (fun h2 => ?_)
    · conv => whnf
      repeat (first | ((with_reducible refine CW.is ?_); refine CW.run rfl ?_; conv => whnf))
      refine Chk.mk ⟨by omega, by omega, (hr []).okLt hlt⟩ ?_
      conv => whnf
      skip
      refine (hr _).ldSub h hx [.int .i64 v.1, .int .i64 v.2] rfl rfl (by omega) rfl ?_
      conv => whnf
      skip
      clear hb
      rcases newM_plain hok v with ⟨e, he, hrun⟩ | ⟨i, hi0, hi1, hz, hv, hrun⟩
      · have hd : decide (e = 0) = false := decide_eq_false he
        refine (newM_any (plainMem p) G v).callE hrun h ⟨rfl, hok⟩ (Try.call45 _ _) fun w h => ?_
        conv => whnf
        skip
        refine Sat.newK h fun H w h => ?_
        conv => whnf
        repeat (first | ((with_reducible refine CW.is ?_); (first | refine CW.run rfl ?_ | refine CW.go ?_); conv => whnf) | ((with_reducible refine Runs.is ?_); refine Sat.store 0 h rfl rfl rfl rfl rfl ?_; (conv => whnf); intro w h; (conv => whnf)))
        refine sel_false (by simp [he]) ?_
        conv => whnf
        repeat (first | ((with_reducible refine CW.is ?_); (first | refine CW.run rfl ?_ | refine CW.go ?_); conv => whnf))
        rw [hd]
        conv => whnf
        repeat (first | ((with_reducible refine CW.is ?_); refine CW.run rfl ?_; conv => whnf) | ((with_reducible refine Wr.is ?_); refine Wr.i64 (by omega) (by omega) ?_; conv => whnf))
        exact ⟨_, by omega, j + 1, cur, told, has, good, a1, a2, a3, c1, c2, c3, by omega, rfl, g, hlen, hok, by omega, rfl, h.keep [1, 2, 3, 4]⟩
      · have g' := g.new v hi0 hi1 hz
        have hok' := (G.run (newM cur.length v) cur ⟨rfl, hok⟩)
        rw [hrun] at hok'
        dsimp only at hok'
        generalize ((cur.set (2 * i).toNat ((gN cur (2 * i)).1 + 1, 1)).set (2 * i + 1).toNat v) = cur' at *
        generalize (gN cur (2 * i)).1 + 1 = age at *
        refine (newM_any (plainMem p) G v).callE hrun h ⟨rfl, hok⟩ (Try.call45 _ _) fun w h => ?_
        conv => whnf
        skip
        refine Sat.newK h fun H w h => ?_
        conv => whnf
        repeat (first | ((with_reducible refine CW.is ?_); (first | refine CW.run rfl ?_ | refine CW.go ?_); conv => whnf) | ((with_reducible refine LdN.is ?_); refine Sat.ldN 0 h rfl _ rfl rfl ?_; conv => whnf) | ((with_reducible refine Runs.is ?_); refine Sat.store 0 h rfl rfl rfl rfl rfl ?_; (conv => whnf); intro w h; (conv => whnf)))
        refine Sat.newK h fun Y w h => ?_
        conv => whnf
        skip
        refine Sat.append1 (l := told) (sz := 2) (enc := encN) (i, age) (h.bring [0, 3, 1, 2, 4, 5]) rfl rfl rfl rfl rfl (by decide) rfl rfl rfl (fun _ => rfl) (fun _ => rfl) (by show _ * 16 ≤ _; omega) fun b1 d1 w h => ?_
        conv => whnf
        repeat (first | ((with_reducible refine CW.is ?_); refine CW.run rfl ?_; conv => whnf))
        refine Chk.mk ⟨by omega, by omega, (hr []).okLt hlt⟩ ?_
        conv => whnf
        skip
        refine (hr _).ldSub h hx [.int .i64 v.1, .int .i64 v.2] rfl rfl (by omega) rfl ?_
        conv => whnf
        skip
        refine Sat.newK h fun Y2 w h => ?_
        conv => whnf
        skip
        refine Sat.append1 (l := has) (sz := 2) (enc := encN) v (h.bring [0, 4, 1, 2, 3, 5]) rfl rfl rfl rfl rfl (by decide) rfl rfl rfl (fun _ => rfl) (fun _ => rfl) (by show _ * 16 ≤ _; omega) fun b2 d2 w h => ?_
        conv => whnf
        repeat (first | ((with_reducible refine CW.is ?_); refine CW.run rfl ?_; conv => whnf))
        refine Sat.newK h fun Y3 w h => ?_
        conv => whnf
        skip
        refine Sat.append1 (l := good) (sz := 1) (enc := encB) true (h.bring [0, 5, 1, 2, 3, 4]) rfl rfl rfl rfl rfl (by decide) rfl rfl rfl (fun _ => rfl) (fun _ => rfl) (by show _ * 1 ≤ _; omega) fun b3 d3 w h => ?_
        conv => whnf
        repeat (first | ((with_reducible refine CW.is ?_); (first | refine CW.run rfl ?_ | refine CW.go ?_); conv => whnf))
        rw [hv] at hrv
        subst hrv
        conv => whnf
        repeat (first | ((with_reducible refine CW.is ?_); refine CW.run rfl ?_; conv => whnf) | ((with_reducible refine Wr.is ?_); refine Wr.i64 (by omega) (by omega) ?_; conv => whnf))
        have lc' := hok'.1
        exact ⟨_, by omega, j + 1, cur', told ++ [(i, age)], has ++ [v], good ++ [true], b1, b2, b3, d1, d2, d3, by omega, rfl, g', by omega, hok'.2, by simp; omega, by simp, h.keep [4, 2, 1, 0]⟩
    conv => whnf
    repeat (first | ((with_reducible refine CW.is ?_); refine CW.run rfl ?_; conv => whnf))
    have h2 : ¬ (told.length : Int) = 0 := of_decide_eq_false h2
    refine Chk.mk ⟨by omega, by omega, (hr []).okLt hlt⟩ ?_
    conv => whnf
    skip
    refine (hr _).ld (i := j) (j := 6) (v := .int .i64 ago) h hx (by omega) rfl rfl ?_
    conv => whnf
    repeat (first | ((with_reducible refine CW.is ?_); refine CW.go ?_; conv => whnf) | ((with_reducible refine Wr.is ?_); refine Wr.i64 (by omega) (by omega) ?_; conv => whnf))
    have hk3 : 0 ≤ (if (told.length : Int) - 1 < (if ago < 0 then 0 else ago) then (told.length : Int) - 1 else if ago < 0 then 0 else ago) ∧ (if (told.length : Int) - 1 < (if ago < 0 then 0 else ago) then (told.length : Int) - 1 else if ago < 0 then 0 else ago) < told.length := by
      split
      · omega
      · split <;> omega
    generalize (if (told.length : Int) - 1 < (if ago < 0 then 0 else ago) then (told.length : Int) - 1 else if ago < 0 then 0 else ago) = ki at *
    obtain ⟨k, rfl⟩ := Int.eq_ofNat_of_zero_le hk3.1
    have hkl : k < told.length := by omega
    clear hk3 h2 hb
    refine Chk.mk ⟨by omega, by omega, (hr []).okLt hlt⟩ ?_
    conv => whnf
    skip
    refine (hr _).ld (i := j) (j := 5) (v := .bool t) h hx (by omega) rfl rfl ?_
    cases t
    · conv => whnf
      repeat (first | (refine CW.run rfl ?_; conv => whnf) | (refine Wr.any ?_; conv => whnf))
      refine CW.draw (id := 25) [(0, 0), (1, 0), (2, 0), (3, 0), (4, 0), (5, 4), (6, 0), (7, 0), (8, 0), (9, 0), (10, 4), (11, 3), (12, 0)] rfl (by kernel_rfl) (fun u => Sat β u [Own 33 2 encN a1 c1 told]) (fun w e1 e2 e3 e4 => ⟨(h.draw e1 e2 e3 e4).keep [1], ?_⟩)
      replace h := h.draw e1 e2 e3 e4
      clear e1 e2 e3 e4
      have hst := storeM_plain (l := cur) (gN told k) v
      have hok' := (G.run (storeM cur.length (gN told k) v) cur ⟨rfl, hok⟩)
      rw [g.ok k hkl] at hst
      rw [hst] at hok'
      conv => whnf
      repeat (first | ((with_reducible refine Chk.is ?_); refine Rds.chkR (Sat.rds 1 h rfl) (by omega) (by omega) ?_; conv => whnf) | ((with_reducible refine LdN.is ?_); refine Rds.ldNR (Sat.rds 1 h rfl) h rfl (by omega) (by omega) ?_; conv => whnf))
      refine Chk.mk ⟨by omega, by omega, (hr []).okLt hlt⟩ ?_
      conv => whnf
      skip
      refine (hr _).ldSub (i := j) (j := 3) (n := 2) h hx [.int .i64 v.1, .int .i64 v.2] rfl rfl (by omega) rfl ?_
      conv => whnf
      skip
      cases hgk : gB good k
      · have hst' : (storeM cur.length (gN told k) v).run rdP wrP cur = (if rightN v then 32 else 1, cur) := by
          rw [hst, hgk]
          cases rightN v <;> rfl
        have e0 : decide ((if rightN v then (32 : Int) else 1) = 0) = false := by cases rightN v <;> rfl
        generalize (if rightN v then (32 : Int) else 1) = e at *
        refine (storeM_any (plainMem p) G (gN told k) v).callE hst' h ⟨rfl, hok⟩ (Try.call47 _ _) fun w h => ?_
        conv => whnf
        repeat (first | ((with_reducible refine CW.is ?_); refine CW.go ?_; conv => whnf))
        refine Chk.mk ⟨by omega, by omega, (h.rds 3 rfl).okLt (i := k) (by omega)⟩ ?_
        conv => whnf
        skip
        refine (h.rds 3 rfl).ld (i := k) (j := 0) (v := .bool false) h (by rw [gB_get (by omega), hgk]) (by omega) rfl rfl ?_
        conv => whnf
        repeat (first | ((with_reducible refine CW.is ?_); refine CW.run rfl ?_; conv => whnf))
        rw [e0]
        conv => whnf
        repeat (first | ((with_reducible refine CW.is ?_); refine CW.run rfl ?_; conv => whnf))
        rw [e0]
        conv => whnf
        repeat (first | ((with_reducible refine CW.is ?_); refine CW.run rfl ?_; conv => whnf) | ((with_reducible refine Wr.is ?_); refine Wr.i64 (by omega) (by omega) ?_; conv => whnf))
        exact ⟨_, by omega, j + 1, cur, told, has, good, a1, a2, a3, c1, c2, c3, by omega, rfl, g, hlen, hok, by omega, rfl, h.keep [0, 1, 2, 3]⟩
      · cases rv
        · rw [hgk, hrv] at hst
          simp only [Bool.false_eq_true, if_false] at hst
          refine (storeM_any (plainMem p) G (gN told k) v).callE hst h ⟨rfl, hok⟩ (Try.call47 _ _) fun w h => ?_
          conv => whnf
          repeat (first | ((with_reducible refine CW.is ?_); refine CW.go ?_; conv => whnf))
          refine Chk.mk ⟨by omega, by omega, (h.rds 3 rfl).okLt (i := k) (by omega)⟩ ?_
          conv => whnf
          skip
          refine (h.rds 3 rfl).ld (i := k) (j := 0) (v := .bool true) h (by rw [gB_get (by omega), hgk]) (by omega) rfl rfl ?_
          conv => whnf
          repeat (first | ((with_reducible refine CW.is ?_); refine CW.run rfl ?_; conv => whnf) | ((with_reducible refine Wr.is ?_); refine Wr.i64 (by omega) (by omega) ?_; conv => whnf))
          exact ⟨_, by omega, j + 1, cur, told, has, good, a1, a2, a3, c1, c2, c3, by omega, rfl, g, hlen, hok, by omega, rfl, h.keep [0, 1, 2, 3]⟩
        · rw [hgk, hrv] at hst
          rw [hgk, hrv] at hok'
          simp only [if_true] at hst hok'
          have g' := g.store hkl hgk v
          generalize (cur.set (2 * (gN told k).1 + 1).toNat v) = cur' at *
          refine (storeM_any (plainMem p) G (gN told k) v).callE hst h ⟨rfl, hok⟩ (Try.call47 _ _) fun w h => ?_
          conv => whnf
          repeat (first | ((with_reducible refine CW.is ?_); refine CW.go ?_; conv => whnf))
          refine Chk.mk ⟨by omega, by omega, (h.rds 3 rfl).okLt (i := k) (by omega)⟩ ?_
          conv => whnf
          skip
          refine (h.rds 3 rfl).ld (i := k) (j := 0) (v := .bool true) h (by rw [gB_get (by omega), hgk]) (by omega) rfl rfl ?_
          conv => whnf
          repeat (first | ((with_reducible refine CW.is ?_); refine CW.run rfl ?_; conv => whnf))
          refine Chk.mk ⟨by omega, by omega, (hr []).okLt hlt⟩ ?_
          conv => whnf
          skip
          refine (hr _).ldSub (i := j) (j := 3) (n := 2) h hx [.int .i64 v.1, .int .i64 v.2] rfl rfl (by omega) rfl ?_
          conv => whnf
          repeat (first | ((with_reducible refine Chk.is ?_); refine Rds.chkR (Sat.rds 2 h rfl) (by omega) (by omega) ?_; conv => whnf))
          refine h.storeOwn 2 v rfl rfl rfl rfl rfl rfl (j := k) (by omega) rfl ?_
          conv => whnf
          repeat (refine Wr.any ?_; conv => whnf)
          intro w h
          conv => whnf
          repeat (first | ((with_reducible refine CW.is ?_); refine CW.run rfl ?_; conv => whnf) | ((with_reducible refine Wr.is ?_); refine Wr.i64 (by omega) (by omega) ?_; conv => whnf))
          exact ⟨_, by omega, j + 1, cur', told, has.set k v, good, a1, a2, a3, c1, c2, c3, by omega, rfl, g', by have := hok'.1; omega, hok'.2, by omega, by simp, h.keep [0, 1, 2, 3]⟩
    · have hdel := delM_plain (l := cur) (gN told k) hok
      have hok' := (G.run (delM cur.length (gN told k)) cur ⟨rfl, hok⟩)
      rw [g.ok k hkl] at hdel
      rw [hdel] at hok'
      cases hgk : gB good k
      · rw [hgk] at hdel
        simp only [Bool.false_eq_true, if_false] at hdel
        have hno := g.delNo hkl hgk
        conv => whnf
        repeat (first | ((with_reducible refine CW.is ?_); refine CW.run rfl ?_; conv => whnf) | ((with_reducible refine Chk.is ?_); refine Rds.chkR (Sat.rds 1 h rfl) (by omega) (by omega) ?_; conv => whnf) | ((with_reducible refine LdN.is ?_); refine Rds.ldNR (Sat.rds 1 h rfl) h rfl (by omega) (by omega) ?_; conv => whnf))
        refine (delM_any (plainMem p) G (gN told k)).callE hdel h ⟨rfl, hok⟩ (Try.call46 _ _) fun w h => ?_
        conv => whnf
        repeat (first | ((with_reducible refine CW.is ?_); refine CW.go ?_; conv => whnf))
        refine Chk.mk ⟨by omega, by omega, (h.rds 3 rfl).okLt (i := k) (by omega)⟩ ?_
        conv => whnf
        skip
        refine (h.rds 3 rfl).ld (i := k) (j := 0) (v := .bool false) h (by rw [gB_get (by omega), hgk]) (by omega) rfl rfl ?_
        conv => whnf
        repeat (first | ((with_reducible refine CW.is ?_); refine CW.run rfl ?_; conv => whnf))
        refine Chk.mk ⟨by omega, by omega, (h.rds 3 rfl).okLt (i := k) (by omega)⟩ ?_
        conv => whnf
        skip
        refine h.storeOwn 3 false rfl rfl rfl rfl rfl rfl (j := k) (by omega) rfl ?_
        conv => whnf
        repeat (refine Wr.any ?_; conv => whnf)
        intro w h
        conv => whnf
        repeat (first | ((with_reducible refine CW.is ?_); refine CW.run rfl ?_; conv => whnf) | ((with_reducible refine Wr.is ?_); refine Wr.i64 (by omega) (by omega) ?_; conv => whnf))
        rw [hno] at h
        exact ⟨_, by omega, j + 1, cur, told, has, good, a1, a2, a3, c1, c2, c3, by omega, rfl, g, hlen, hok, by omega, rfl, h.keep [0, 1, 2, 3]⟩
      · rw [hgk] at hdel hok'
        simp only [if_true] at hdel hok'
        have g' := g.del hkl hgk
        generalize (cur.set (2 * (gN told k).1).toNat ((gN told k).2, 0)) = cur' at *
        conv => whnf
        repeat (first | ((with_reducible refine CW.is ?_); refine CW.run rfl ?_; conv => whnf) | ((with_reducible refine Chk.is ?_); refine Rds.chkR (Sat.rds 1 h rfl) (by omega) (by omega) ?_; conv => whnf) | ((with_reducible refine LdN.is ?_); refine Rds.ldNR (Sat.rds 1 h rfl) h rfl (by omega) (by omega) ?_; conv => whnf))
        refine (delM_any (plainMem p) G (gN told k)).callE hdel h ⟨rfl, hok⟩ (Try.call46 _ _) fun w h => ?_
        conv => whnf
        repeat (first | ((with_reducible refine CW.is ?_); refine CW.go ?_; conv => whnf))
        refine Chk.mk ⟨by omega, by omega, (h.rds 3 rfl).okLt (i := k) (by omega)⟩ ?_
        conv => whnf
        skip
        refine (h.rds 3 rfl).ld (i := k) (j := 0) (v := .bool true) h (by rw [gB_get (by omega), hgk]) (by omega) rfl rfl ?_
        conv => whnf
        repeat (first | ((with_reducible refine CW.is ?_); refine CW.run rfl ?_; conv => whnf))
        refine Chk.mk ⟨by omega, by omega, (h.rds 3 rfl).okLt (i := k) (by omega)⟩ ?_
        conv => whnf
        skip
        refine h.storeOwn 3 false rfl rfl rfl rfl rfl rfl (j := k) (by omega) rfl ?_
        conv => whnf
        repeat (refine Wr.any ?_; conv => whnf)
        intro w h
        conv => whnf
        repeat (first | ((with_reducible refine CW.is ?_); refine CW.run rfl ?_; conv => whnf) | ((with_reducible refine Wr.is ?_); refine Wr.i64 (by omega) (by omega) ?_; conv => whnf))
        exact ⟨_, by omega, j + 1, cur', told, has, good.set k false, a1, a2, a3, c1, c2, c3, by omega, rfl, g', by have := hok'.1; omega, hok'.2, by omega, by simp, h.keep [0, 1, 2, 3]⟩
  · clear hr hb hL
    have hcp := countM_plain (l := cur) ((cur.length : Int) / 2).toNat 0 0 (by omega) (by omega)
    rw [show ((cur.length : Int) / 2).toNat = cur.length / 2 by omega, g.cnt, show cur.length / 2 = ((cur.length : Int) / 2).toNat by omega] at hcp
    have hcb : 0 ≤ cntB good ∧ cntB good ≤ 150 := by
      have := List.count_le_length (a := true) (l := good)
      unfold cntB
      omega
    conv => whnf
    repeat (first | ((with_reducible refine CW.is ?_); refine CW.run rfl ?_; conv => whnf))
    refine CW.loop [5, 7, 8, 9, 17, 18] (fun m vs w => ∃ q : Nat, q ≤ told.length ∧ m = told.length - q ∧ vs = [ptr p, .slice a1 told.length c1, .slice a2 has.length c2, .slice a3 good.length c3, .int .i64 (cntB (good.take q)), .int .i64 q] ∧
      Sat β w [Plain p cur, Own 33 2 encN a1 c1 told, Own 33 2 encN a2 c2 has, Own 4 1 encB a3 c3 good]) ?_ ?_
    · conv => whnf
      skip
      exact ⟨_, 0, Nat.zero_le _, rfl, rfl, h⟩
    clear h
    rintro _ _ w ⟨q, hq, rfl, rfl, h⟩
    conv => whnf
    repeat (first | ((with_reducible refine CW.is ?_); (first | refine CW.run rfl ?_ | refine CW.go ?_); conv => whnf))
    refine sel_mk (fun h2 => ?_) (fun h2 => ?_)
    · have hlt : q < told.length := by simpa using h2
      have hld := loadM_plain (l := cur) (gN told q)
      rw [g.ok q hlt] at hld
      have hv := g.val q hlt
      have hcq : 0 ≤ cntB (good.take q) ∧ cntB (good.take q) ≤ 150 := by
        have := List.count_le_length (a := true) (l := good.take q)
        rw [List.length_take] at this
        unfold cntB
        omega
      have hcs : cntB (good.take (q + 1)) = cntB (good.take q) + (if gB good q then 1 else 0) := by
        unfold cntB
        rw [List.take_add_one, List.count_append, gB_get (by omega)]
        cases gB good q <;> simp
      have gq : good[q]? = some (gB good q) := gB_get (by omega)
      generalize gB good q = b at *
      cases b
      · simp only [Bool.false_eq_true, if_false, Int.add_zero] at hld hcs
        rw [← hcs]
        conv => whnf
        repeat (first | ((with_reducible refine CW.is ?_); (first | refine CW.run rfl ?_ | refine CW.go ?_); conv => whnf) | ((with_reducible refine Chk.is ?_); refine Rds.chkR (Sat.rds 1 h rfl) (by omega) (by omega) ?_; conv => whnf) | ((with_reducible refine LdN.is ?_); refine Rds.ldNR (Sat.rds 1 h rfl) h rfl (by omega) (by omega) ?_; conv => whnf))
        refine (loadM_any (plainMem p) G (gN told q)).callE hld h ⟨rfl, hok⟩ (Try.call48 _ _) fun w h => ?_
        conv => whnf
        skip
        refine Sat.newK h fun X w h => ?_
        conv => whnf
        repeat (first | ((with_reducible refine CW.is ?_); refine CW.go ?_; conv => whnf) | ((with_reducible refine Runs.is ?_); refine Sat.store 0 h rfl rfl rfl rfl rfl ?_; (conv => whnf); intro w h; (conv => whnf)))
        refine CW.draw (id := 35) [(0, 0), (1, 0), (2, 0), (3, 0), (4, 0), (5, 4), (6, 0), (7, 0), (8, 0), (9, 0), (10, 0), (11, 4), (12, 0), (13, 4), (14, 0), (15, 0), (16, 0), (17, 4), (18, 3), (19, 0), (20, 0)] rfl (by kernel_rfl) (fun u => Sat β u []) (fun w e1 e2 e3 e4 => ⟨(h.draw e1 e2 e3 e4).drop, ?_⟩)
        replace h := h.draw e1 e2 e3 e4
        clear e1 e2 e3 e4
        conv => whnf
        skip
        refine Chk.mk ⟨by omega, by omega, (h.rds 4 rfl).okLt (i := q) (by omega)⟩ ?_
        conv => whnf
        skip
        refine (h.rds 4 rfl).ld (i := q) (j := 0) (v := .bool false) h gq (by omega) rfl rfl ?_
        conv => whnf
        skip
        refine Chk.mk ⟨by omega, by omega, (h.rds 4 rfl).okLt (i := q) (by omega)⟩ ?_
        conv => whnf
        skip
        refine (h.rds 4 rfl).ld (i := q) (j := 0) (v := .bool false) h gq (by omega) rfl rfl ?_
        conv => whnf
        repeat (first | ((with_reducible refine CW.is ?_); refine CW.run rfl ?_; conv => whnf))
        refine Chk.mk ⟨by omega, by omega, (h.rds 4 rfl).okLt (i := q) (by omega)⟩ ?_
        conv => whnf
        skip
        refine (h.rds 4 rfl).ld (i := q) (j := 0) (v := .bool false) h gq (by omega) rfl rfl ?_
        conv => whnf
        repeat (first | ((with_reducible refine CW.is ?_); refine CW.run rfl ?_; conv => whnf) | ((with_reducible refine Wr.is ?_); refine Wr.i64 (by omega) (by omega) ?_; conv => whnf))
        exact ⟨_, by omega, q + 1, by omega, rfl, rfl, h.keep [1, 2, 3, 4]⟩
      · simp only [if_true] at hld hcs
        rw [hv rfl] at hld
        conv => whnf
        repeat (first | ((with_reducible refine CW.is ?_); (first | refine CW.run rfl ?_ | refine CW.go ?_); conv => whnf) | ((with_reducible refine Chk.is ?_); refine Rds.chkR (Sat.rds 1 h rfl) (by omega) (by omega) ?_; conv => whnf) | ((with_reducible refine LdN.is ?_); refine Rds.ldNR (Sat.rds 1 h rfl) h rfl (by omega) (by omega) ?_; conv => whnf))
        refine (loadM_any (plainMem p) G (gN told q)).callE hld h ⟨rfl, hok⟩ (Try.call48 _ _) fun w h => ?_
        conv => whnf
        skip
        refine Sat.newK h fun X w h => ?_
        conv => whnf
        repeat (first | ((with_reducible refine CW.is ?_); refine CW.go ?_; conv => whnf) | ((with_reducible refine Runs.is ?_); refine Sat.store 0 h rfl rfl rfl rfl rfl ?_; (conv => whnf); intro w h; (conv => whnf)))
        refine CW.draw (id := 35) [(0, 0), (1, 0), (2, 0), (3, 0), (4, 0), (5, 4), (6, 0), (7, 0), (8, 0), (9, 0), (10, 0), (11, 4), (12, 0), (13, 4), (14, 0), (15, 0), (16, 0), (17, 4), (18, 3), (19, 0), (20, 0)] rfl (by kernel_rfl) (fun u => Sat β u []) (fun w e1 e2 e3 e4 => ⟨(h.draw e1 e2 e3 e4).drop, ?_⟩)
        replace h := h.draw e1 e2 e3 e4
        clear e1 e2 e3 e4
        conv => whnf
        skip
        refine Chk.mk ⟨by omega, by omega, (h.rds 4 rfl).okLt (i := q) (by omega)⟩ ?_
        conv => whnf
        skip
        refine (h.rds 4 rfl).ld (i := q) (j := 0) (v := .bool true) h gq (by omega) rfl rfl ?_
        conv => whnf
        skip
        refine Chk.mk ⟨by omega, by omega, (h.rds 4 rfl).okLt (i := q) (by omega)⟩ ?_
        conv => whnf
        skip
        refine (h.rds 4 rfl).ld (i := q) (j := 0) (v := .bool true) h gq (by omega) rfl rfl ?_
        conv => whnf
        repeat (first | ((with_reducible refine CW.is ?_); refine CW.run rfl ?_; conv => whnf) | ((with_reducible refine Chk.is ?_); refine Rds.chkR (Sat.rds 3 h rfl) (by omega) (by omega) ?_; conv => whnf) | ((with_reducible refine LdN.is ?_); (first | refine Sat.ldN 0 h rfl _ rfl rfl ?_ | refine Rds.ldNR (Sat.rds 3 h rfl) h rfl (by omega) (by omega) ?_); conv => whnf) | ((with_reducible refine EqP.is ?_); refine eqN (xs := (_, _)) (ys := (_, _)) ?_; conv => whnf))
        refine sel_false (by simp) ?_
        conv => whnf
        repeat (first | ((with_reducible refine CW.is ?_); refine CW.run rfl ?_; conv => whnf))
        refine Chk.mk ⟨by omega, by omega, (h.rds 4 rfl).okLt (i := q) (by omega)⟩ ?_
        conv => whnf
        skip
        refine (h.rds 4 rfl).ld (i := q) (j := 0) (v := .bool true) h gq (by omega) rfl rfl ?_
        conv => whnf
        repeat (first | ((with_reducible refine CW.is ?_); refine CW.run rfl ?_; conv => whnf) | ((with_reducible refine Wr.is ?_); refine Wr.i64 (by omega) (by omega) ?_; conv => whnf))
        exact ⟨_, by omega, q + 1, by omega, rfl, by rw [hcs]; rfl, h.keep [1, 2, 3, 4]⟩
    · have h2 : ¬ (q : Int) < told.length := by simpa using h2
      have et : good.take q = good := List.take_of_length_le (by omega)
      rw [et]
      conv => whnf
      repeat (first | ((with_reducible refine CW.is ?_); refine CW.run rfl ?_; conv => whnf))
      refine (countM_any (plainMem p) G).callE hcp h ⟨rfl, hok⟩ (Try.call49 _ _) fun w h => ?_
      conv => whnf
      repeat (first | ((with_reducible refine CW.is ?_); refine CW.run rfl ?_; conv => whnf))
      refine alive3_any.call h (Try.call43 _ _) fun w h => ?_
      conv => whnf
      repeat (first | ((with_reducible refine CW.is ?_); refine CW.run rfl ?_; conv => whnf))
      exact ⟨by simp, h.drop⟩
end Go.Ev
