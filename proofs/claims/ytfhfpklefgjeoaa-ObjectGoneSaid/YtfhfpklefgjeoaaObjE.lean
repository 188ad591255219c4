/- Things that come and go: one act, and the law on acts. Conditions: none. -/
import Derived.Test.YtfhfpklefgjeoaaObjD
import Derived.Test.YtfhfpklefgjeoaaEvR
namespace Go.Ev
open Go Go.Proofs
set_option maxRecDepth 10000
set_option maxHeartbeats 4000000

/-- The handle of an act. -/
def handL (x : Act3) (told : List Num) : Num := if x.2.2.2.1 = true ∧ 0 ≤ x.2.2.2.2 ∧ x.2.2.2.2 < told.length then gN told (told.length - 1 - x.2.2.2.2) else x.2.1
theorem handle_any (x : Act3) {a : Option Addr} {c : Nat} {l : List Num} (hl : l.length ≤ 4096) : ∀ β w As, Sat β w As → Rds β As 2 encN a l →
    Calls Try.prog 53 #[vA3 x, .slice a l.length c] w fun e w' => e = .returned (vN (handL x l)) ∧ Sat β w' As := by
  intro β w As h hr0
  obtain ⟨k, y, v, t, g⟩ := x
  refine calls_W (args := [wA3 k y v t g, .slice a l.length c]) Try.func53 rfl rfl rfl ?_
  unfold handL
  dsimp only
  cases t with
  | false =>
    conv => whnf
    repeat (first | ((with_reducible refine CW.is ?_); (first | refine CW.run rfl ?_ | refine CW.go ?_); conv => whnf) | ((with_reducible refine New.is ?_); refine Sat.newK h fun b w h => ?_; conv => whnf) | ((with_reducible refine Ld.is ?_); refine Sat.ld 1 h rfl rfl ?_; conv => whnf) | ((with_reducible refine LdN.is ?_); (first | refine Sat.ldN 0 h rfl _ rfl rfl ?_ | refine Sat.ldN 1 h rfl _ rfl rfl ?_); conv => whnf) | ((with_reducible refine Runs.is ?_); refine Sat.store 0 h rfl rfl rfl rfl rfl ?_; (conv => whnf); intro w h; (conv => whnf)))
    simp only [Bool.false_eq_true, false_and, if_false]
    exact ⟨rfl, h.tail.tail⟩
  | true => ?_
  conv => whnf
  repeat (first | ((with_reducible refine CW.is ?_); refine CW.go ?_; conv => whnf) | ((with_reducible refine New.is ?_); refine Sat.newK h fun b w h => ?_; conv => whnf) | ((with_reducible refine Ld.is ?_); refine Sat.ld 1 h rfl rfl ?_; conv => whnf))
  refine sel_mk (fun h1 => ?_) (fun h1 => ?_)
  rotate_left
  · have h1 : ¬ 0 ≤ g := by simpa using h1
    conv => whnf
    repeat (first | ((with_reducible refine CW.is ?_); refine CW.run rfl ?_; conv => whnf) | ((with_reducible refine LdN.is ?_); (first | refine Sat.ldN 0 h rfl _ rfl rfl ?_ | refine Sat.ldN 1 h rfl _ rfl rfl ?_); conv => whnf) | ((with_reducible refine Runs.is ?_); refine Sat.store 0 h rfl rfl rfl rfl rfl ?_; (conv => whnf); intro w h; (conv => whnf)))
    rw [if_neg (fun hh => h1 hh.2.1)]
    exact ⟨rfl, h.tail.tail⟩
  have h1 : 0 ≤ g := by simpa using h1
  conv => whnf
  repeat (first | ((with_reducible refine CW.is ?_); refine CW.run rfl ?_; conv => whnf) | ((with_reducible refine Ld.is ?_); refine Sat.ld 1 h rfl rfl ?_; conv => whnf))
  refine sel_mk (fun h2 => ?_) (fun h2 => ?_)
  rotate_left
  · have h2 : ¬ g < l.length := by simpa using h2
    conv => whnf
    repeat (first | ((with_reducible refine CW.is ?_); refine CW.run rfl ?_; conv => whnf) | ((with_reducible refine LdN.is ?_); (first | refine Sat.ldN 0 h rfl _ rfl rfl ?_ | refine Sat.ldN 1 h rfl _ rfl rfl ?_); conv => whnf) | ((with_reducible refine Runs.is ?_); refine Sat.store 0 h rfl rfl rfl rfl rfl ?_; (conv => whnf); intro w h; (conv => whnf)))
    rw [if_neg (fun hh => h2 hh.2.2)]
    exact ⟨rfl, h.tail.tail⟩
  have h2 : g < l.length := by simpa using h2
  conv => whnf
  repeat (first | ((with_reducible refine CW.is ?_); refine CW.run rfl ?_; conv => whnf) | ((with_reducible refine Wr.is ?_); refine Wr.i64 (by omega) (by omega) ?_; conv => whnf) | ((with_reducible refine Chk.is ?_); refine Rds.chkR hr0 (by omega) (by omega) ?_; conv => whnf) | ((with_reducible refine Ld.is ?_); refine Sat.ld 1 h rfl rfl ?_; conv => whnf) | ((with_reducible refine LdN.is ?_); (first | refine Sat.ldN 0 h rfl _ rfl rfl ?_ | refine Rds.ldNR hr0.cons.cons h rfl (by omega) (by omega) ?_); conv => whnf) | ((with_reducible refine Runs.is ?_); refine Sat.store 0 h rfl rfl rfl rfl rfl ?_; (conv => whnf); intro w h; (conv => whnf)))
  rw [if_pos ⟨rfl, h1, h2⟩]
  exact ⟨rfl, h.tail.tail⟩

/-- What an act leaves, and its handle. -/
def actL (l : List Num) (k : Int) (hh v : Num) : List Num × Num := (((onceM l.length k hh v).run rdP wrP l).2, if k.tmod 5 = 0 then ((onceM l.length k hh v).run rdP wrP l).1.1 else hh)
theorem act3_any (x : Act3) (hh : Num) {p : Nat} {a : Option Addr} {c : Nat} {l : List Num} (hl : l.length ≤ 4096) (hok : l.all rightN = true) : ∀ β w F, Sat β w [Plain p l, Lst β a c l, F] →
    Calls Try.prog 52 #[.iface 26 (ptr p), .slice a l.length c, vA3 x, vN hh] w fun e w' => ∃ a' c', e = .returned (.tuple #[.slice a' (actL l x.1 hh x.2.2.1).1.length c', vN (actL l x.1 hh x.2.2.1).2, .bool true]) ∧
      Sat β w' [Plain p (actL l x.1 hh x.2.2.1).1, Lst β a' c' (actL l x.1 hh x.2.2.1).1, F] := by
  intro β w F h
  obtain ⟨k, y, v, t, g⟩ := x
  refine calls_W (args := [.iface 26 (ptr p), .slice a l.length c, wA3 k y v t g, vN hh]) Try.func52 rfl rfl rfl ?_
  unfold actL onceM
  dsimp only
  have G := goodP (N := l.length) (by omega) (by omega)
  conv => whnf
  skip
  refine Sat.newK h fun A w h => ?_
  conv => whnf
  skip
  refine Sat.newK h fun H w h => ?_
  conv => whnf
  skip
  refine Sat.newK h fun R w h => ?_
  conv => whnf
  repeat (first | ((with_reducible refine CW.is ?_); refine CW.run rfl ?_; conv => whnf) | ((with_reducible refine Chk.is ?_); refine Chk.mk (by decide) ?_; conv => whnf) | ((with_reducible refine Ld.is ?_); refine Sat.ld 2 h rfl rfl ?_; conv => whnf))
  refine Sat.bringK [3, 0, 1, 2, 4, 5] h ?_
  conv => whnf
  clear h; intro h
  refine sel_mk (fun h1 => ?_) (fun h1 => ?_)
  · have h1 : k.tmod 5 = 0 := by simpa using h1
    rw [if_pos h1]
    have cn := new3_any (a := a) (c := c) v hl hok
    rcases hr : (newM l.length v).run rdP wrP l with ⟨⟨z, e⟩, l'⟩
    rw [hr] at cn
    dsimp only at cn
    conv => whnf
    repeat (first | ((with_reducible refine CW.is ?_); refine CW.run rfl ?_; conv => whnf) | ((with_reducible refine LdN.is ?_); refine Sat.ldN 3 h rfl _ rfl rfl ?_; conv => whnf))
    refine (newM_any (plainMem p) G v).callE hr h ⟨rfl, hok⟩ (Try.call45 _ _) fun w h => ?_
    conv => whnf
    skip
    refine Sat.newK h fun X w h => ?_
    conv => whnf
    repeat (first | ((with_reducible refine CW.is ?_); refine CW.run rfl ?_; conv => whnf) | ((with_reducible refine LdN.is ?_); refine Sat.ldN 4 h rfl _ rfl rfl ?_; conv => whnf) | ((with_reducible refine Runs.is ?_); refine Sat.store 0 h rfl rfl rfl rfl rfl ?_; (conv => whnf); intro w h; (conv => whnf)))
    refine CallF.ret (cn β w _ h (h.lstRds 5 rfl)) (Try.call80 _ _) ?_
    rintro _ w ⟨a', c', rfl, hf⟩
    refine ⟨_, rfl, ?_⟩
    refine Fresh.lstK 5 rfl hf ?_
    clear h hf
    conv => whnf
    intro h
    conv => whnf
    repeat (first | ((with_reducible refine CW.is ?_); refine CW.run rfl ?_; conv => whnf) | ((with_reducible refine New.is ?_); refine Sat.newK h fun b w h => ?_; conv => whnf) | ((with_reducible refine LdN.is ?_); (first | refine Sat.ldN 0 h rfl _ rfl rfl ?_ | refine Sat.ldN 1 h rfl _ rfl rfl ?_); conv => whnf) | ((with_reducible refine EqP.is ?_); refine eqN (xs := (_, _)) (ys := (_, _)) ?_; conv => whnf) | (refine And.intro h ?_; conv => whnf) | ((with_reducible refine LdGN.is ?_); refine Sat.ldGN 0 rfl _ rfl rfl ?_; conv => whnf) | ((with_reducible refine Runs.is ?_); refine Sat.store 0 h rfl rfl rfl rfl rfl ?_; (conv => whnf); intro w h; (conv => whnf)) | ((with_reducible refine CW.is ?_); refine CW.draw (id := 5) [(0, 0), (1, 1), (2, 4), (3, 4), (4, 2), (5, 0), (6, 0), (7, 0), (8, 0), (9, 0), (10, 0), (11, 3), (12, 0)] rfl (by kernel_rfl) (fun u => Sat _ u _) (fun w e1 e2 e3 e4 => ⟨h.draw e1 e2 e3 e4, ?_⟩); replace h := h.draw e1 e2 e3 e4; clear e1 e2 e3 e4; (conv => whnf)))
    refine sel_true (by simp) ?_
    conv => whnf
    repeat (first | ((with_reducible refine CW.is ?_); refine CW.run rfl ?_; conv => whnf) | ((with_reducible refine LdN.is ?_); refine Sat.ldN 3 h rfl _ rfl rfl ?_; conv => whnf) | ((with_reducible refine Runs.is ?_); refine Sat.store 3 h rfl rfl rfl rfl rfl ?_; (conv => whnf); intro w h; (conv => whnf)))
    exact ⟨a', c', by simp only [if_pos h1]; rfl, h.keep [2, 6, 7]⟩
  have h1 : ¬ k.tmod 5 = 0 := by simpa using h1
  rw [if_neg h1, if_neg h1]
  conv => whnf
  repeat (first | ((with_reducible refine CW.is ?_); refine CW.run rfl ?_; conv => whnf))
  refine sel_mk (fun h2 => ?_) (fun h2 => ?_)
  · have h2 : k.tmod 5 = 1 := by simpa using h2
    rw [if_pos h2, MP.run_bind]
    have cn := del3_any (a := a) (c := c) hh hl hok
    rcases hr : (delM l.length hh).run rdP wrP l with ⟨e, l'⟩
    rw [hr] at cn
    dsimp only [MP.run] at cn ⊢
    conv => whnf
    repeat (first | ((with_reducible refine CW.is ?_); refine CW.run rfl ?_; conv => whnf) | ((with_reducible refine LdN.is ?_); refine Sat.ldN 2 h rfl _ rfl rfl ?_; conv => whnf))
    refine CallF.ret (cn β w _ h (h.lstRds 4 rfl)) (Try.call81 _ _) ?_
    rintro _ w ⟨a', c', rfl, hf⟩
    refine ⟨_, rfl, ?_⟩
    refine Fresh.lstK 4 rfl hf ?_
    clear h hf
    conv => whnf
    intro h
    conv => whnf
    repeat (first | (refine CW.run rfl ?_; conv => whnf) | (refine CW.go ?_; conv => whnf) | (refine Wr.any ?_; conv => whnf))
    refine CW.draw (id := 8) [(0, 0), (1, 1), (2, 0), (3, 4), (5, 0), (4, 2), (6, 0), (7, 0), (8, 3), (9, 0)] rfl (by kernel_rfl) (fun u => Sat β u [row H 33 [.int .i64 hh.1, .int .i64 hh.2]]) (fun w e1 e2 e3 e4 => ⟨(h.draw e1 e2 e3 e4).keep [2], ?_⟩)
    replace h := h.draw e1 e2 e3 e4
    clear e1 e2 e3 e4
    conv => whnf
    repeat (first | ((with_reducible refine LdN.is ?_); refine Sat.ldN 2 h rfl _ rfl rfl ?_; conv => whnf) | ((with_reducible refine LdGN.is ?_); refine Sat.ldGN 0 rfl _ rfl rfl ?_; conv => whnf))
    refine (delM_any (plainMem p) G hh).callE hr h ⟨rfl, hok⟩ (Try.call46 _ _) fun w h => ⟨h.keep [2], ?_⟩
    conv => whnf
    repeat (first | ((with_reducible refine CW.is ?_); refine CW.run rfl ?_; conv => whnf) | ((with_reducible refine LdN.is ?_); refine Sat.ldN 1 h rfl _ rfl rfl ?_; conv => whnf) | ((with_reducible refine Runs.is ?_); refine Sat.store 1 h rfl rfl rfl rfl rfl ?_; (conv => whnf); intro w h; (conv => whnf)))
    exact ⟨a', c', by simp only [decide_true]; rfl, h.keep [0, 4, 5]⟩
  have h2 : ¬ k.tmod 5 = 1 := by simpa using h2
  rw [if_neg h2]
  conv => whnf
  repeat (first | ((with_reducible refine CW.is ?_); refine CW.run rfl ?_; conv => whnf))
  refine sel_mk (fun h3 => ?_) (fun h3 => ?_)
  · have h3 : k.tmod 5 = 2 := by simpa using h3
    rw [if_pos h3]
    have cn := load3_any (a := a) (c := c) hh hl
    have e1 := loadM_plain (l := l) hh
    rcases hr : (loadM l.length hh).run rdP wrP l with ⟨⟨z, e⟩, l'⟩
    rw [hr] at cn
    dsimp only [MP.run] at cn ⊢
    obtain rfl : l' = l := by
      rw [hr] at e1
      split at e1 <;> simp only [Prod.mk.injEq] at e1 <;> exact e1.2
    conv => whnf
    repeat (first | ((with_reducible refine CW.is ?_); refine CW.run rfl ?_; conv => whnf) | ((with_reducible refine LdN.is ?_); refine Sat.ldN 2 h rfl _ rfl rfl ?_; conv => whnf))
    refine (loadM_any (plainMem p) G hh).callE hr h ⟨rfl, hok⟩ (Try.call48 _ _) fun w h => ?_
    conv => whnf
    repeat (first | ((with_reducible refine CW.is ?_); refine CW.run rfl ?_; conv => whnf) | ((with_reducible refine New.is ?_); refine Sat.newK h fun b w h => ?_; conv => whnf) | ((with_reducible refine LdN.is ?_); refine Sat.ldN 3 h rfl _ rfl rfl ?_; conv => whnf) | ((with_reducible refine Runs.is ?_); refine Sat.store 0 h rfl rfl rfl rfl rfl ?_; (conv => whnf); intro w h; (conv => whnf)))
    refine CallF.val (cn β w _ h (h.lstRds 5 rfl)) (Try.call82 _ _) fun w h => ?_
    conv => whnf
    repeat (first | ((with_reducible refine CW.is ?_); refine CW.run rfl ?_; conv => whnf) | ((with_reducible refine New.is ?_); refine Sat.newK h fun b w h => ?_; conv => whnf) | ((with_reducible refine LdN.is ?_); (first | refine Sat.ldN 0 h rfl _ rfl rfl ?_ | refine Sat.ldN 1 h rfl _ rfl rfl ?_); conv => whnf) | ((with_reducible refine EqP.is ?_); refine eqN (xs := (_, _)) (ys := (_, _)) ?_; conv => whnf) | (refine And.intro h ?_; conv => whnf) | ((with_reducible refine LdGN.is ?_); refine Sat.ldGN 4 rfl _ rfl rfl ?_; conv => whnf) | ((with_reducible refine Runs.is ?_); refine Sat.store 0 h rfl rfl rfl rfl rfl ?_; (conv => whnf); intro w h; (conv => whnf)) | ((with_reducible refine CW.is ?_); refine CW.draw (id := 12) [(0, 0), (1, 1), (2, 4), (3, 4), (4, 2), (5, 0), (6, 0), (7, 0), (8, 0), (9, 0), (10, 0), (11, 3), (12, 0)] rfl (by kernel_rfl) (fun u => Sat _ u _) (fun w e1 e2 e3 e4 => ⟨h.draw e1 e2 e3 e4, ?_⟩); replace h := h.draw e1 e2 e3 e4; clear e1 e2 e3 e4; (conv => whnf)))
    refine sel_true (by simp) ?_
    conv => whnf
    repeat (first | ((with_reducible refine CW.is ?_); refine CW.run rfl ?_; conv => whnf) | ((with_reducible refine LdN.is ?_); refine Sat.ldN 3 h rfl _ rfl rfl ?_; conv => whnf) | ((with_reducible refine Runs.is ?_); refine Sat.store 3 h rfl rfl rfl rfl rfl ?_; (conv => whnf); intro w h; (conv => whnf)))
    exact ⟨a, c, by simp only [decide_true]; rfl, h.keep [2, 6, 7]⟩
  have h3 : ¬ k.tmod 5 = 2 := by simpa using h3
  rw [if_neg h3]
  conv => whnf
  repeat (first | ((with_reducible refine CW.is ?_); refine CW.run rfl ?_; conv => whnf))
  refine sel_mk (fun h4 => ?_) (fun h4 => ?_)
  · have h4 : k.tmod 5 = 3 := by simpa using h4
    rw [if_pos h4, MP.run_bind]
    have cn := store3_any (a := a) (c := c) hh v hl
    rcases hr : (storeM l.length hh v).run rdP wrP l with ⟨e, l'⟩
    rw [hr] at cn
    dsimp only [MP.run] at cn ⊢
    conv => whnf
    repeat (first | ((with_reducible refine CW.is ?_); refine CW.run rfl ?_; conv => whnf) | ((with_reducible refine LdN.is ?_); (first | refine Sat.ldN 2 h rfl _ rfl rfl ?_ | refine Sat.ldN 3 h rfl _ rfl rfl ?_); conv => whnf))
    refine CallF.ret (cn β w _ h (h.lstRds 4 rfl)) (Try.call83 _ _) ?_
    rintro _ w ⟨a', c', rfl, hf⟩
    refine ⟨_, rfl, ?_⟩
    refine Fresh.lstK 4 rfl hf ?_
    clear h hf
    conv => whnf
    intro h
    conv => whnf
    repeat (first | (refine CW.run rfl ?_; conv => whnf) | (refine CW.go ?_; conv => whnf) | (refine Wr.any ?_; conv => whnf))
    refine CW.draw (id := 15) [(0, 0), (1, 1), (2, 0), (3, 4), (4, 0), (5, 4), (7, 0), (6, 2), (8, 0), (9, 0), (10, 3), (11, 0)] rfl (by kernel_rfl) (fun u => Sat β u [row H 33 [.int .i64 hh.1, .int .i64 hh.2]]) (fun w e1 e2 e3 e4 => ⟨(h.draw e1 e2 e3 e4).keep [2], ?_⟩)
    replace h := h.draw e1 e2 e3 e4
    clear e1 e2 e3 e4
    conv => whnf
    repeat (first | ((with_reducible refine LdN.is ?_); (first | refine Sat.ldN 2 h rfl _ rfl rfl ?_ | refine Sat.ldN 3 h rfl _ rfl rfl ?_); conv => whnf) | ((with_reducible refine LdGN.is ?_); refine Sat.ldGN 0 rfl _ rfl rfl ?_; conv => whnf))
    refine (storeM_any (plainMem p) G hh v).callE hr h ⟨rfl, hok⟩ (Try.call47 _ _) fun w h => ⟨h.keep [2], ?_⟩
    conv => whnf
    repeat (first | ((with_reducible refine CW.is ?_); refine CW.run rfl ?_; conv => whnf) | ((with_reducible refine LdN.is ?_); refine Sat.ldN 1 h rfl _ rfl rfl ?_; conv => whnf) | ((with_reducible refine Runs.is ?_); refine Sat.store 1 h rfl rfl rfl rfl rfl ?_; (conv => whnf); intro w h; (conv => whnf)))
    exact ⟨a', c', by simp only [decide_true]; rfl, h.keep [0, 4, 5]⟩
  have h4 : ¬ k.tmod 5 = 3 := by simpa using h4
  rw [if_neg h4, MP.run_bind]
  have cn := count3_any (a := a) (c := c) hl
  have tn : ((l.length : Int) / 2).toNat = l.length / 2 := by omega
  have hr := countM_plain (l := l) (l.length / 2) 0 0 (by omega) (by omega)
  rw [← tn] at hr
  rw [← tn] at cn
  generalize cntL l ((l.length : Int) / 2).toNat 0 0 = z at hr cn
  rw [hr]
  dsimp only [MP.run]
  conv => whnf
  repeat (first | ((with_reducible refine CW.is ?_); refine CW.run rfl ?_; conv => whnf))
  refine (countM_any (plainMem p) G).callE hr h ⟨rfl, hok⟩ (Try.call49 _ _) fun w h => ?_
  conv => whnf
  repeat (first | ((with_reducible refine CW.is ?_); refine CW.run rfl ?_; conv => whnf) | ((with_reducible refine LdGN.is ?_); refine Sat.ldGN 2 rfl _ rfl rfl ?_; conv => whnf) | ((with_reducible refine CW.is ?_); refine CW.draw (id := 17) [(0, 0), (1, 1), (2, 0), (3, 0), (4, 2), (5, 0), (6, 0), (7, 0), (8, 0), (9, 0), (10, 0), (11, 3), (12, 0)] rfl (by kernel_rfl) (fun u => Sat _ u _) (fun w e1 e2 e3 e4 => ⟨h.draw e1 e2 e3 e4, ?_⟩); replace h := h.draw e1 e2 e3 e4; clear e1 e2 e3 e4; (conv => whnf)))
  refine CallF.val (cn β w _ h (h.lstRds 4 rfl)) (Try.call84 _ _) fun w h => ⟨h, ?_⟩
  conv => whnf
  skip
  refine sel_true (by simp) ?_
  conv => whnf
  repeat (first | ((with_reducible refine CW.is ?_); refine CW.run rfl ?_; conv => whnf) | ((with_reducible refine LdN.is ?_); refine Sat.ldN 1 h rfl _ rfl rfl ?_; conv => whnf) | ((with_reducible refine Runs.is ?_); refine Sat.store 1 h rfl rfl rfl rfl rfl ?_; (conv => whnf); intro w h; (conv => whnf)))
  exact ⟨a, c, by simp only [decide_true]; rfl, h.keep [0, 4, 5]⟩

theorem actL_ok {l : List Num} (hl : l.length ≤ 4096) (hok : l.all rightN = true) (k : Int) (hh v : Num) : (actL l k hh v).1.length = l.length ∧ (actL l k hh v).1.all rightN = true := by
  have := (goodP (N := l.length) (by omega) (by omega)).run (onceM l.length k hh v) l ⟨rfl, hok⟩
  exact ⟨by have := this.1; unfold actL; simp only; omega, this.2⟩
theorem lawObjectPlays {β : World} {a : Option Addr} {c : Nat} {l : List Num} (hl : l.length ≤ 9223372036854775807) (hr : ∀ As, Rds β As 2 encN a l)
    {a2 : Option Addr} {c2 : Nat} {L : List Act3} (hL : L.length ≤ 9223372036854775807) (hr2 : ∀ As, Rds β As 7 encA3 a2 L) :
    ∀ w, Sat β w [] → Calls Try.prog 11 #[.slice a l.length c, .slice a2 L.length c2] w fun e w' => e = .returned (.bool true) ∧ Sat β w' [] := by
  intro w h
  refine calls_W (args := [.slice a l.length c, .slice a2 L.length c2]) Try.func11 rfl rfl rfl ?_
  have r2 := fun w As h => ref2Right_any (c := c) hl β w As h (hr As)
  generalize e0 : (l.all rightN && decide (l.length ≤ 4096)) = ok at r2
  conv => whnf
  repeat (first | ((with_reducible refine CW.is ?_); refine CW.run rfl ?_; conv => whnf))
  refine CallF.val (r2 w _ h) (Try.call14 _ _) fun w h => ?_
  conv => whnf
  repeat (first | ((with_reducible refine CW.is ?_); refine CW.go ?_; conv => whnf))
  refine sel_mk (fun h1 => ?_) (fun h1 => ?_)
  · conv => whnf
    repeat (first | ((with_reducible refine CW.is ?_); refine CW.run rfl ?_; conv => whnf))
    refine alive3_any.call h (Try.call43 _ _) fun w h => ?_
    conv => whnf
    repeat (first | ((with_reducible refine CW.is ?_); refine CW.run rfl ?_; conv => whnf))
    exact ⟨rfl, h.drop⟩
  obtain rfl : ok = true := by simpa using h1
  have hok : l.all rightN = true ∧ l.length ≤ 4096 := by simpa [Bool.and_eq_true] using e0
  conv => whnf
  skip
  refine sel_mk (fun h1 => ?_) (fun h1 => ?_)
  · conv => whnf
    repeat (first | ((with_reducible refine CW.is ?_); refine CW.run rfl ?_; conv => whnf))
    refine alive3_any.call h (Try.call43 _ _) fun w h => ?_
    conv => whnf
    repeat (first | ((with_reducible refine CW.is ?_); refine CW.run rfl ?_; conv => whnf))
    exact ⟨rfl, h.drop⟩
  have hs : l.length ≤ 150 := by simp at h1; omega
  conv => whnf
  repeat (first | ((with_reducible refine CW.is ?_); refine CW.run rfl ?_; conv => whnf))
  refine sel_mk (fun h1 => ?_) (fun h1 => ?_)
  · conv => whnf
    repeat (first | ((with_reducible refine CW.is ?_); refine CW.run rfl ?_; conv => whnf))
    refine alive3_any.call h (Try.call43 _ _) fun w h => ?_
    conv => whnf
    repeat (first | ((with_reducible refine CW.is ?_); refine CW.run rfl ?_; conv => whnf))
    exact ⟨rfl, h.drop⟩
  have hsL : L.length ≤ 150 := by simp at h1; omega
  conv => whnf
  repeat (first | ((with_reducible refine CW.is ?_); refine CW.run rfl ?_; conv => whnf))
  refine CallF.ret (memLoad_any hok.1 hok.2 β w _ h (hr _)) (Try.call16 _ _) ?_
  rintro _ w ⟨p, rfl, h⟩
  refine ⟨_, rfl, ?_⟩
  conv => whnf
  repeat (first | ((with_reducible refine CW.is ?_); (first | refine CW.run rfl ?_ | refine CW.go ?_); conv => whnf))
  refine CW.loop [1, 6, 8, 9, 10] (fun m vs w => ∃ (k : Nat) (cur : List Num) (a' : Option Addr) (c' : Nat) (told : List Num) (b : Option Addr) (d : Nat), k ≤ L.length ∧ m = L.length - k ∧ cur.length = l.length ∧ cur.all rightN = true ∧ told.length ≤ k ∧
    vs = [.slice a2 L.length c2, ptr p, .slice a' cur.length c', .slice b told.length d, .int .i64 k] ∧
    Sat β w [Plain p cur, Lst β a' c' cur, Own 33 2 encN b d told]) ?_ ?_
  · conv => whnf
    skip
    exact ⟨_, 0, l, a, c, [], none, 0, Nat.zero_le _, rfl, rfl, hok.1, Nat.le_refl _, rfl, ((h.own_nil.lst_old hr).keep [2, 0, 1])⟩
  clear h
  rintro _ _ w ⟨k, cur, a', c', told, b, d, hk, rfl, hcur, hcok, ht, rfl, h⟩
  conv => whnf
  repeat (first | ((with_reducible refine CW.is ?_); (first | refine CW.run rfl ?_ | refine CW.go ?_); conv => whnf))
  refine sel_mk (fun h1 => ?_) (fun h1 => ?_)
  rotate_left
  · conv => whnf
    repeat (first | ((with_reducible refine CW.is ?_); refine CW.run rfl ?_; conv => whnf))
    refine alive3_any.call h (Try.call43 _ _) fun w h => ?_
    conv => whnf
    repeat (first | ((with_reducible refine CW.is ?_); refine CW.run rfl ?_; conv => whnf))
    exact ⟨rfl, h.drop⟩
  have hlt : k < L.length := by simpa using h1
  have hx := List.getElem?_eq_getElem hlt
  generalize L[k] = x at hx
  obtain ⟨kk, y, v, t, g⟩ := x
  have ak := actL_ok (l := cur) (by omega) hcok kk (handL (kk, y, v, t, g) told) v
  have ca : ∀ w As, Sat β w (Plain p cur :: Lst β a' c' cur :: As) → Calls Try.prog 52 #[.iface 26 (ptr p), .slice a' cur.length c', vA3 (kk, y, v, t, g), vN (handL (kk, y, v, t, g) told)] w fun e w' => ∃ a'' c'', e = .returned (.tuple #[.slice a'' (actL cur kk (handL (kk, y, v, t, g) told) v).1.length c'', vN (actL cur kk (handL (kk, y, v, t, g) told) v).2, .bool true]) ∧ Sat β w' (Plain p (actL cur kk (handL (kk, y, v, t, g) told) v).1 :: Lst β a'' c'' (actL cur kk (handL (kk, y, v, t, g) told) v).1 :: As) :=
    fun w As h => (act3_any (kk, y, v, t, g) (handL (kk, y, v, t, g) told) (by omega) hcok β w (Bag As) (Sat.bag2.1 h)).mono fun e w' ⟨a'', c'', h1, h2⟩ => ⟨a'', c'', h1, Sat.bag2.2 h2⟩
  have ch := handle_any (kk, y, v, t, g) (a := b) (c := d) (l := told) (by omega)
  generalize handL (kk, y, v, t, g) told = hh at ak ca ch
  generalize actL cur kk hh v = r at ak ca
  obtain ⟨l', hd⟩ := r
  dsimp only at ak ca
  conv => whnf
  repeat (first | (refine CW.run rfl ?_; conv => whnf) | (refine CW.go ?_; conv => whnf) | (refine Wr.any ?_; conv => whnf))
  refine CW.joinT [1, 6, 9, 10, 11, 12, 13] (fun vs w => ∃ (a'' : Option Addr) (c'' : Nat) (X : Nat), vs = [.slice a2 L.length c2, ptr p, .slice b told.length d, .int .i64 k, .slice a'' l'.length c'', ptr X, .bool true] ∧
    Sat β w [row X 33 [.int .i64 hd.1, .int .i64 hd.2], Plain p l', Lst β a'' c'' l', Own 33 2 encN b d told]) ?_ ?_
  · skip
    refine CW.drawT (id := 12) [0, 0, 0, 0, 0, 0, 1, 0, 0, 0, 1, 0, 2, 2, 0, 0, 0, 0, 2, 0, 2, 0] (.op 0 (.op 1 (.op 2 (.op 3 (.op 4 (.op 5 (.op 6 (.op 7 (.op 8 (.op 9 (.op 10 (.op 11 (.fork (.op 12 (.fork (.op 13 (.op 14 (.op 15 (.op 16 (.op 17 (.op 18 (.op 19 (.op 20 (.op 21 .nil))))))))) (.op 18 (.op 13 (.op 14 (.op 15 (.op 16 (.op 17 (.op 19 (.op 20 (.op 21 .nil))))))))))) (.op 18 (.op 12 (.op 13 (.op 14 (.op 15 (.op 16 (.op 17 (.op 19 (.op 20 (.op 21 .nil))))))))))))))))))))))) rfl (by kernel_rfl) (fun u => Sat β u []) (fun w e1 e2 e3 e4 => ⟨(h.draw e1 e2 e3 e4).drop, ?_⟩)
    replace h := h.draw e1 e2 e3 e4
    clear e1 e2 e3 e4
    conv => whnf
    repeat (refine Wr.any ?_; conv => whnf)
    refine Chk.mk ⟨by omega, by omega, (hr2 []).okLt hlt⟩ ?_
    conv => whnf
    repeat (refine Wr.any ?_; conv => whnf)
    refine Rds.ldGN (hr2 []) hx rfl (by simp) ?_
    conv => whnf
    repeat (refine Wr.any ?_; conv => whnf)
    refine Chk.mk ⟨by omega, by omega, (hr2 []).okLt hlt⟩ ?_
    conv => whnf
    repeat (refine Wr.any ?_; conv => whnf)
    refine Rds.ldGN (hr2 []) hx rfl (by simp) ?_
    conv => whnf
    repeat (refine Wr.any ?_; conv => whnf)
    refine ⟨?_, ?_⟩
    · conv => whnf
      repeat (refine Wr.any ?_; conv => whnf)
      refine CallF.val (ch β w _ h (h.rds 2 rfl)) (Try.call53 _ _) fun w h => ⟨h.drop, ?_⟩
      conv => whnf
      repeat (refine Wr.any ?_; conv => whnf)
      refine ⟨?_, ?_⟩
      · conv => whnf
        repeat (refine Wr.any ?_; conv => whnf)
        refine CallF.ret (ca w _ h) (Try.call52 _ _) ?_
        rintro _ w ⟨a'', c'', rfl, h⟩
        refine ⟨_, rfl, h.drop, ?_⟩
        conv => whnf
        repeat (refine Wr.any ?_; conv => whnf)
        refine h.newK fun X w h => ⟨h.drop, ?_⟩
        conv => whnf
        repeat (refine Wr.any ?_; conv => whnf)
        refine h.store 0 rfl rfl rfl rfl rfl ?_
        conv => whnf
        repeat (refine Wr.any ?_; conv => whnf)
        intro w h
        refine ⟨h.drop, ?_⟩
        conv => whnf
        skip
        exact ⟨a'', c'', X, rfl, h⟩
      · conv => whnf
        repeat (refine Wr.any ?_; conv => whnf)
        refine h.newK fun X w h => ⟨h.drop, ?_⟩
        conv => whnf
        repeat (refine Wr.any ?_; conv => whnf)
        refine CallF.ret (ca w _ (h.bring [1, 2, 3, 0])) (Try.call52 _ _) ?_
        rintro _ w ⟨a'', c'', rfl, h⟩
        refine ⟨_, rfl, h.drop, ?_⟩
        conv => whnf
        repeat (refine Wr.any ?_; conv => whnf)
        refine h.store 3 rfl rfl rfl rfl rfl ?_
        conv => whnf
        repeat (refine Wr.any ?_; conv => whnf)
        intro w h
        refine ⟨h.drop, ?_⟩
        conv => whnf
        skip
        exact ⟨a'', c'', X, rfl, h.keep [3, 0, 1, 2]⟩
    · conv => whnf
      repeat (refine Wr.any ?_; conv => whnf)
      refine h.newK fun X w h => ⟨h.drop, ?_⟩
      conv => whnf
      repeat (refine Wr.any ?_; conv => whnf)
      refine CallF.val (ch β w _ h (h.rds 3 rfl)) (Try.call53 _ _) fun w h => ⟨h.drop, ?_⟩
      conv => whnf
      repeat (refine Wr.any ?_; conv => whnf)
      refine CallF.ret (ca w _ (h.bring [1, 2, 3, 0])) (Try.call52 _ _) ?_
      rintro _ w ⟨a'', c'', rfl, h⟩
      refine ⟨_, rfl, h.drop, ?_⟩
      conv => whnf
      repeat (refine Wr.any ?_; conv => whnf)
      refine h.store 3 rfl rfl rfl rfl rfl ?_
      conv => whnf
      repeat (refine Wr.any ?_; conv => whnf)
      intro w h
      refine ⟨h.drop, ?_⟩
      conv => whnf
      skip
      exact ⟨a'', c'', X, rfl, h.keep [3, 0, 1, 2]⟩
  clear h
  rintro _ w ⟨a'', c'', X, rfl, h⟩
  conv => whnf
  repeat (first | ((with_reducible refine CW.is ?_); refine CW.run rfl ?_; conv => whnf))
  refine CallF.ret (memAll_any (b := p) (l := l') (by omega) β w _ (h.front 1 rfl)) (Try.call21 _ _) ?_
  rintro _ w ⟨a4, c4, rfl, h⟩
  refine ⟨_, rfl, ?_⟩
  conv => whnf
  repeat (first | ((with_reducible refine CW.is ?_); refine CW.go ?_; conv => whnf))
  refine CallF.val (same_any (by omega) β w _ h (h.rds 0 rfl) (h.lstRds 3 rfl)) (Try.call24 _ _) fun w h => ?_
  conv => whnf
  repeat (first | ((with_reducible refine CW.is ?_); refine CW.run rfl ?_; conv => whnf))
  refine sel_false (by simp) ?_
  conv => whnf
  repeat (first | ((with_reducible refine CW.is ?_); refine CW.run rfl ?_; conv => whnf))
  refine Chk.mk ⟨by omega, by omega, (hr2 []).okLt hlt⟩ ?_
  conv => whnf
  skip
  refine (hr2 _).ld (i := k) (j := 0) h hx (by omega) rfl rfl ?_
  conv => whnf
  repeat (first | ((with_reducible refine CW.is ?_); refine CW.run rfl ?_; conv => whnf) | ((with_reducible refine Chk.is ?_); refine Chk.mk (by decide) ?_; conv => whnf))
  refine sel_mk (fun h2 => ?_) (fun h2 => ?_)
  · conv => whnf
    repeat (first | ((with_reducible refine CW.is ?_); refine CW.run rfl ?_; conv => whnf) | ((with_reducible refine New.is ?_); refine Sat.newK h fun b w h => ?_; conv => whnf) | ((with_reducible refine LdN.is ?_); refine Sat.ldN 2 h rfl _ rfl rfl ?_; conv => whnf))
    refine Sat.append1 (l := told) (sz := 2) (enc := encN) hd (h.bring [0, 5, 1, 2, 3, 4]) rfl rfl rfl rfl rfl (by decide) rfl rfl rfl (fun _ => rfl) (fun _ => rfl) (by show _ * 16 ≤ _; omega) fun a5 c5 w h => ?_
    conv => whnf
    repeat (first | ((with_reducible refine CW.is ?_); refine CW.run rfl ?_; conv => whnf) | ((with_reducible refine Wr.is ?_); refine Wr.i64 (by omega) (by omega) ?_; conv => whnf))
    exact ⟨_, by omega, k + 1, l', a'', c'', told ++ [hd], a5, c5, by omega, rfl, by omega, ak.2, by simp; omega, by simp, h.keep [2, 4, 0]⟩
  · conv => whnf
    repeat (first | ((with_reducible refine CW.is ?_); refine CW.run rfl ?_; conv => whnf) | ((with_reducible refine Wr.is ?_); refine Wr.i64 (by omega) (by omega) ?_; conv => whnf))
    exact ⟨_, by omega, k + 1, l', a'', c'', told, b, d, by omega, rfl, by omega, ak.2, by omega, rfl, h.keep [1, 3, 4]⟩
end Go.Ev
