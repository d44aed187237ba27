/- (*Chain).add, as far as look is known. perm.Check, parquetref19.Perm: is it a permutation? perm.Check, walked. Rows of ints, frozen or owned; slices.Clone; perm.Check of such. (*link).begun, group. chain.New. (*Chain).Has, base, Base. base, Base. (*Chain).Base. (*Chain).Orbits. -/
import Derived.Test.YtkffcclalncgdaaRe
section
set_option maxHeartbeats 8000000
set_option linter.unusedVariables false
set_option linter.unusedSimpArgs false
set_option maxRecDepth 10000
namespace Go.Proofs.Ytkffcclalncgdaa.Iv
open Go Go.Iv Go.RowKit Pg Ch
theorem WP.name {Fz : Prop} {P : Program} {c : Code} {tm : Nat → Option AV} {n : Nat} {H : Hp} {ds : List ADef} {Q : AExit → St → Prop} (k : ∀ h1, h1 = H → WP Fz P c ⟨tm, n, h1, ds⟩ Q) : WP Fz P c ⟨tm, n, H, ds⟩ Q := k H rfl
theorem WP.ex {Fz : Prop} {P : Program} {c : Code} {s : St} {R : St → Prop} (k : WP Fz P c s (fun e s1 => e = .normal ∧ R s1)) : ∃ s1, Go.Iv.Sem Fz P c s .normal s1 ∧ R s1 := by
 obtain ⟨e, s1, h1, rfl, h2⟩ := k
 exact ⟨s1, h1, h2⟩
theorem WP.tms {Fz : Prop} {P : Program} {c : Code} {T : Nat → Option AV} {n : Nat} {h : Hp} {ds : List ADef} {Q : AExit → St → Prop} (S : Nat → Prop) (k : ∀ tm, (∀ u, S u → tm u = T u) → WP Fz P c ⟨tm, n, h, ds⟩ Q) : WP Fz P c ⟨T, n, h, ds⟩ Q := k T fun _ _ => rfl
theorem bounds_lo (len cap k : Nat) (h : k ≤ len) (h2 : len ≤ cap) : evBounds len cap (some (.flat (.int .i64 (k : Int)))) none none = some (k, len, cap) := by
 have e : asNat (.flat (.int .i64 (k : Int))) = some k := by simp [asNat]
 unfold evBounds
 have e1 : Nat.ble cap cap = true := by simp
 have e2 : Nat.ble len cap = true := by simpa using h2
 have e3 : Nat.ble k len = true := by simpa using h
 simp [optNat, e, e1, e2, e3]
theorem clean_pls {n : Nat} : ∀ l : List (Pm n), allClean (l.map fun p => pl p.l) = true
 | [] => rfl
 | p :: l => by
  have := clean_pls l
  simp only [List.map_cons, allClean, pl, clean_isl1, Bool.true_and] at this ⊢
  exact this
theorem cleanN : cleanV [Value.slice none 0 0] = true := rfl
theorem cleanI : cleanV [Value.int .i64 0] = true := rfl
theorem Stands.push {n : Nat} {y : Lay} {β : Nat → Nat} {G : AV} {gb : Nat → Option Nat} {st : St n} {h : Hp} (s : Stands y β G gb st h) {k : Nat} (hk : k < n) (p : Pm n) {h' : Hp} {B : Nat}
    (hL : h'.m (y.L k) = some (.cells [pc (β k), .slice B 0 ((st.S k).length + 1) (.toEnd 1), .map (y.M k)] 70 false))
    (hB : h'.m B = some (.cells ((st.S k).map (fun p => pl p.l) ++ [pl p.l]) 23 true)) (hBn : h.next ≤ B) (hn : h.next ≤ h'.next)
    (hr : ∀ i, i < h.next → i ≠ y.L k → gb k ≠ some i → h'.m i = h.m i) (hb : ∀ i, h'.next ≤ i → h'.m i = none) :
    Stands y β G (fun j => if j = k then some B else gb j) (st.pushS k p) h' ∧ Keep y n gb h (fun j => if j = k then some B else gb j) h' := by
 have lk := s.link k hk
 have gne : ∀ {i : Nat} {l : List AV} {te : TypeId} {x : Bool}, h.m i = some (.cells l te x) → te ≠ 23 → gb k ≠ some i := fun hi ht c => by
  have := s.gen hk c
  exact neT hi this ht rfl
 refine ⟨⟨?_, ?_, fun j hj => ?_, fun j hj => ?_, fun j hj => ?_, fun j hj => s.key j hj, s.mdis, s.ldis, fun i j b hi hj h1 h2 => ?_, hb⟩, ⟨fun i hi hd => hr i hi (hd k hk).1 (hd k hk).2.2, fun j b hj h1 => ?_, hn⟩⟩
 ·rw [hr _ s.ltC (neT s.chain lk (by decide)) (gne s.chain (by decide))]; exact s.chain
 ·intro hn; rw [hr _ (s.ltK hn) (neT (s.links hn) lk (by decide)) (gne (s.links hn) (by decide))]; exact s.links hn
 ·by_cases e : j = k
  ·subst e
   simp only [if_true, St.pushS, List.length_append, List.length_singleton, gv]
   exact hL
  ·simp only [if_neg e, St.pushS]
   rw [hr _ (s.ltL hj) (fun c => e (s.ldis _ _ hj hk c)) (gne (s.link j hj) (by decide))]; exact s.link j hj
 ·rw [hr _ (s.ltM hj) (fun c => by
    have := s.map j hj
    rw [c, lk] at this; cases this) fun c => by
     have h1 := s.gen hk c
     rw [s.map j hj] at h1; cases h1]
  exact s.map j hj
 ·by_cases e : j = k
  ·subst e
   simp only [if_true, St.pushS, List.map_append, List.map_cons, List.map_nil]
   exact hB
  ·simp only [if_neg e, St.pushS]
   have := s.gens j hj
   cases hg : gb j with
   | none => rw [hg] at this; exact this
   | some b =>
    rw [hg] at this
    simp only at this ⊢
    rw [hr _ (lt_next s.born this) (neT this lk (by decide)) fun c => e (s.gdis j k b hj hk hg c)]; exact this
 ·by_cases e1 : i = k
  ·by_cases e2 : j = k
   ·rw [e1, e2]
   ·rw [if_pos e1] at h1; rw [if_neg e2] at h2
    simp only [Option.some.injEq] at h1
    have := lt_next s.born (s.gen hj h2)
    omega
  ·by_cases e2 : j = k
   ·rw [if_neg e1] at h1; rw [if_pos e2] at h2
    simp only [Option.some.injEq] at h2
    have := lt_next s.born (s.gen hi h1)
    omega
   ·rw [if_neg e1] at h1; rw [if_neg e2] at h2
    exact s.gdis i j b hi hj h1 h2
 ·by_cases e : j = k
  ·rw [if_pos e] at h1
   simp only [Option.some.injEq] at h1
   exact .inr (by omega)
  ·rw [if_neg e] at h1
   exact .inl h1
def addTm (tmB : Nat → Option AV) (b m : Nat) (yv : AV) (len : Nat) : Nat → Option AV :=
 if len = 0 then upd tmB 47 (some yv) else
  upd (upd (upd (upd (upd (upd (upd (upd (upd (upd (upd tmB 47 (some yv)) 48 (some (.tuple [.flat (.bool true), .top, .top]))) 49 (some (.flat (.bool true)))) 50 (some (.tuple [.top, .top]))) 51 (some .top)) 8 (some .top)) 52 (some .top)) 53 (some .top)) 54 (some .top)) 55 (some (.slice b 0 len (.exact m)))) 7 (some (.slice b 0 len (.exact m)))
theorem addTm_keep (tmB : Nat → Option AV) (b m : Nat) (yv : AV) (len u : Nat) (h : u = 0 ∨ u = 1 ∨ u = 2 ∨ u = 6 ∨ u = 43 ∨ u = 44 ∨ u = 45 ∨ u = 46) : addTm tmB b m yv len u = tmB u := by
 unfold addTm
 split <;> rcases h with h | h | h | h | h | h | h | h <;> subst h <;> rfl
theorem addTm_it (tmB : Nat → Option AV) (b m : Nat) (yv : AV) (len : Nat) : addTm tmB b m yv len 47 = some yv := by
 unfold addTm
 split <;> rfl
theorem addTm_o (tmB : Nat → Option AV) (b m : Nat) (yv : AV) (len : Nat) (h : tmB 7 = some (.slice b 0 0 (.exact m))) : addTm tmB b m yv len 7 = some (.slice b 0 len (.exact m)) := by
 unfold addTm
 split
 ·rename_i e; subst e; exact h
 ·rfl
def addHp (h1 : Hp) (b m mk : Nat) (vis : List Int) : Hp := ⟨b + 1 + vis.length, if vis.length = 0 then h1.low else 0, upd (upd h1.m b (some (.cells (vis.map jc ++ List.replicate (m - vis.length) (.flat (.int .i64 0))) 3 false))) mk none⟩
theorem addTm_step (tmB : Nat → Option AV) (b m : Nat) (yv : AV) (len : Nat) (z : Int) (u : AV) (lit : Nat) (hu : ∀ (ρ : Ren) (v : Value), u.rel ρ v → topV v = true) (t : Nat) :
    SlotLe (upd (upd (upd (upd (upd (upd (upd (upd (upd (upd (addTm tmB b m yv len) 48 (some (.tuple [.flat (.bool true), .flat (.int .i64 z), u]))) 49 (some (.flat (.bool true)))) 50 (some (.tuple [.flat (.int .i64 z), u]))) 51 (some (.flat (.int .i64 z)))) 8 (some (.flat (.int .i64 z)))) 52 (some (.slice b 0 len (.exact m)))) 53 (some (.flat (.int .i64 z)))) 54 (some (.slice lit 0 1 (.exact 1)))) 55 (some (.slice b 0 (len + 1) (.exact m)))) 7 (some (.slice b 0 (len + 1) (.exact m)))) (addTm tmB b m yv (len + 1)) t := by
 conv => arg 2; unfold addTm
 rw [if_neg (by omega)]
 refine le_upd (fun _ => True) (fun _ _ h => h) ?_ t trivial
 refine le_upd _ (fun _ _ h => h) ?_
 refine le_upd _ (fun ρ v h => top_sl ρ _ _ _ _ v h) ?_
 refine le_upd _ (fun ρ v h => top_int ρ _ _ v h) ?_
 refine le_upd _ (fun ρ v h => top_sl ρ _ _ _ _ v h) ?_
 refine le_upd _ (fun ρ v h => top_int ρ _ _ v h) ?_
 refine le_upd _ (fun ρ v h => top_int ρ _ _ v h) ?_
 refine le_upd _ (fun ρ v h => tup_en ρ _ _ (hu ρ) v h) ?_
 refine le_upd _ (fun _ _ h => h) ?_
 refine le_upd _ (fun ρ v h => tup_nx ρ _ _ (hu ρ) v h) ?_
 rintro w ⟨⟨⟨⟨⟨⟨⟨⟨⟨⟨_, h1⟩, h2⟩, h3⟩, h4⟩, h5⟩, h6⟩, h7⟩, h8⟩, h9⟩, h10⟩ ρ v
 unfold addTm
 split
 ·exact id
 ·simp only [slo, upd_ne _ _ h1, upd_ne _ _ h2, upd_ne _ _ h3, upd_ne _ _ h4, upd_ne _ _ h5, upd_ne _ _ h6, upd_ne _ _ h7, upd_ne _ _ h8, upd_ne _ _ h9, upd_ne _ _ h10]
  exact id
theorem addTm_top (tmB : Nat → Option AV) (b m : Nat) (a : Option Addr) (len : Nat) (P : Nat → Prop) : ∀ t, P t → SlotLe (addTm tmB b m (.flat (.pointer a)) len) (addTm tmB b m .top len) t := by
 unfold addTm
 split
 ·exact le_upd _ (fun ρ v h => top_ptr ρ _ v h) fun u _ => SlotLe.refl _ _
 ·refine le_upd _ (fun _ _ h => h) ?_
  refine le_upd _ (fun _ _ h => h) ?_
  refine le_upd _ (fun _ _ h => h) ?_
  refine le_upd _ (fun _ _ h => h) ?_
  refine le_upd _ (fun _ _ h => h) ?_
  refine le_upd _ (fun _ _ h => h) ?_
  refine le_upd _ (fun _ _ h => h) ?_
  refine le_upd _ (fun _ _ h => h) ?_
  refine le_upd _ (fun _ _ h => h) ?_
  refine le_upd _ (fun _ _ h => h) ?_
  exact le_upd _ (fun ρ v h => top_ptr ρ _ v h) fun u _ => SlotLe.refl _ _
theorem set_app (A : List AV) (j : Nat) (c v : AV) : (A ++ List.replicate (j + 1) c).set A.length v = (A ++ [v]) ++ List.replicate j c := by
 rw [List.set_append_right _ _ (Nat.le_refl _), Nat.sub_self, List.replicate_succ, List.set_cons_zero, List.append_assoc]; rfl
theorem add_ok {n : Nat} (hn : n ≤ 1000) {y : Lay} {β : Nat → Nat} {G : AV} (hβ : ∀ k, k < n → β k < n) (f : Nat) (ihL : LookOk (n := n) y β G f) : AddOk (n := n) y β G (f + 1) := by
 intro gb st h s k p st' hk hr hlen
 refine sem_heap tables.ok Try.func64 rfl rfl rfl rfl ?_
 have hC := s.chain' (by omega)
 have hK := s.links (by omega)
 have hL := s.link k hk
 have hM := s.map k hk
 have lC := s.ltC
 have lK := s.ltK (by omega)
 have lL := s.ltL hk
 have lM := s.ltM hk
 have hKc : (List.map (fun k => AV.ptr (y.L k) 0) (List.range n))[k]? = some (.ptr (y.L k) 0) := by rw [List.getElem?_map, List.getElem?_range hk]; rfl
 have sm := sifted_sem hn s hβ hk p
 obtain ⟨call, B, c1, _⟩ := call_at tables.ok mixed [] sm (Hp.Le.refl h)
 rw [run] at hr
 cases hsf : sift β st (n - k) k p with
 | some r =>
  rw [hsf] at c1 hr
  simp only [Option.isSome_some, if_true, Option.some.injEq] at hr
  subst hr
  have hp := pl_cons (show 0 < n by omega) r
  simp only [optV, hp] at c1
  unfold Try.f64 bodyOf entry; simp only [Option.getD_some, List.length_cons, List.length_nil, Nat.reduceAdd, Nat.reduceSub]
  repeat (first
   | refine wp_seqQ ?_ | refine wp_blockQ ?_ | refine wp_scopeQ ?_
   | ((first | refine wp_skipQ ?_ | refine wp_labelQ ?_ | refine wp_exitQ ?_ | refine wp_retQ ?_); simp only [kQ, Nat.reduceEqDiff, reduceIte])
   | (refine wp_reg B ?_; simp (disch := omega) only [kW, Nat.reduceEqDiff, reduceIte, Nat.reduceLT, Nat.reduceLeDiff, Nat.reduceAdd, Nat.reduceSub, Nat.reduceMul, Nat.reducePow, Nat.reduceDiv, Nat.reduceMod, evIndexAddr, TD.agg, evFieldAddr, ty3, ty22, ty23, ty27, ty65, ty67, ty68, ty70, ty73, fn46, fn41, fn54, fn73, hC, hK, pc, c1, bounds_lo, binA_islN ty23])
   | refine wp_condT rfl ?_ | refine wp_condF rfl ?_)
  simp (disch := omega) only [kS, Nat.reduceEqDiff, reduceIte, Nat.reduceLT, Nat.reduceLeDiff, Nat.reduceAdd, Nat.reduceSub, Nat.reduceMul, Nat.reducePow, Nat.reduceDiv, Nat.reduceMod, evIndexAddr, TD.agg, evFieldAddr, ty3, ty22, ty23, ty27, ty65, ty67, ty68, ty70, ty73, fn46, fn41, fn54, fn73]
  exact ⟨gb, s, fun _ _ => rfl, Keep.refl _ _ _ _⟩
 | none =>
  rw [hsf] at c1 hr
  simp only [optV, nilS] at c1
  simp only [Option.isSome_none, Bool.false_eq_true, if_false] at hr
  have hm9 : (st.S k).length + 1 ≤ 1000 := by
   have h1 := (orbitAll_grow (fun q st r e => run_grow false β f false k q st r e) p _ _ _ hr).S k
   have h2 := hlen k hk
   simp only [St.pushS, if_true, List.length_append, List.length_singleton] at h1
   omega
  have hLM : y.L k ≠ y.M k := s.neM hk hL
  have hpp := pl_cons (show 0 < n by omega) p
  rw [hpp] at c1 ⊢
  have hpm : (List.map (fun p => pl p.l) (st.S k)) ++ [AV.isl (p.l.map pc) 1 0 n] = List.map (fun p => pl p.l) (st.S k) ++ [pl p.l] := by rw [hpp]
  unfold Try.f64 bodyOf entry; simp only [Option.getD_some, List.length_cons, List.length_nil, Nat.reduceAdd, Nat.reduceSub]
  repeat (first
   | refine wp_seqQ ?_ | refine wp_blockQ ?_ | refine wp_scopeQ ?_
   | ((first | refine wp_skipQ ?_ | refine wp_labelQ ?_ | refine wp_exitQ ?_ | refine wp_retQ ?_); simp only [kQ, Nat.reduceEqDiff, reduceIte])
   | ((fail_if_success refine wp_reg (id := 2) B ?_); refine wp_reg B ?_; simp (disch := omega) only [kW, Nat.reduceEqDiff, reduceIte, Nat.reduceLT, Nat.reduceLeDiff, Nat.reduceAdd, Nat.reduceSub, Nat.reduceMul, Nat.reducePow, Nat.reduceDiv, Nat.reduceMod, evIndexAddr, TD.agg, evFieldAddr, ty3, ty22, ty23, ty27, ty65, ty67, ty68, ty70, ty73, fn46, fn41, fn54, fn73, hC, hK, pc, c1, bounds_lo, hKc])
   | refine wp_condT rfl ?_ | refine wp_condF rfl ?_)
  refine WP.mono (Q := fun e s' => e = .normal ∧ ∃ (tm : Nat → Option AV) (h1 : Hp) (gb1 : Nat → Option Nat), s' = ⟨tm, 76, h1, []⟩ ∧ tm 0 = some (.ptr y.C 0) ∧ tm 1 = some (pc k) ∧ tm 2 = some (pl p.l) ∧ tm 6 = some (.ptr (y.L k) 0) ∧ Stands y β G gb1 (st.pushS k p) h1 ∧ (∀ j, j < k → gb1 j = gb j) ∧ Keep y n gb h gb1 h1) ?_ ?_
  ·cases hb : gb k with
   | none =>
    have hS0 := s.gen0 hk hb
    rw [hb] at hL
    simp only [gv, nilS] at hL
    simp only [hS0, List.map_nil, List.nil_append] at hpm
    repeat (first
     | refine wp_seqQ ?_ | refine wp_blockQ ?_ | refine wp_scopeQ ?_
     | ((first | refine wp_skipQ ?_ | refine wp_labelQ ?_ | refine wp_exitQ ?_ | refine wp_retQ ?_); simp only [kQ, Nat.reduceEqDiff, reduceIte])
     | (refine wp_reg B ?_; simp (disch := omega) only [kW, Nat.reduceEqDiff, reduceIte, Nat.reduceLT, Nat.reduceLeDiff, Nat.reduceAdd, Nat.reduceSub, Nat.reduceMul, Nat.reducePow, Nat.reduceDiv, Nat.reduceMod, evIndexAddr, TD.agg, evFieldAddr, ty3, ty22, ty23, ty27, ty65, ty67, ty68, ty70, ty73, fn46, fn41, fn54, fn73, pc, hL, cleanN])
     | refine wp_condT rfl ?_ | refine wp_condF rfl ?_)
    first | refine ⟨rfl, _, _, fun j => if j = k then some (h.next + 1) else gb j, rfl, rfl, rfl, ?_, rfl, ?_⟩ | refine ⟨_, _, fun j => if j = k then some (h.next + 1) else gb j, rfl, rfl, rfl, ?_, rfl, ?_⟩
    ·rw [hpp]; rfl
    ·refine (fun pu => ⟨pu.1, fun j hj => if_neg (by omega), pu.2⟩) (s.push hk p (B := h.next + 1) ?_ ?_ ?_ ?_ ?_ ?_)
     ·dsimp only
      rw [upd_eq, hS0]; rfl
     ·dsimp only
      rw [upd_ne _ _ (by omega), upd_eq, hpp, hS0]; rfl
     ·omega
     ·show h.next ≤ h.next + 1 + 1
      omega
     ·intro i hi h2 _
      dsimp only
      rw [upd_ne _ _ h2, upd_ne _ _ (by omega), upd_ne _ _ (by omega)]
     ·intro i hi
      have hi : h.next + 1 + 1 ≤ i := hi
      dsimp only
      rw [upd_ne _ _ (by omega), upd_ne _ _ (by omega), upd_ne _ _ (by omega)]
      exact s.born i (by omega)
   | some b =>
    rw [hb] at hL
    have hG := s.gen hk hb
    have lb := lt_next s.born hG
    have nLb : y.L k ≠ b := neT hL hG (by decide)
    have hGl : (List.map (fun p : Pm n => pl p.l) (st.S k)).length = (st.S k).length := by simp
    simp only [gv] at hL
    repeat (first
     | refine wp_seqQ ?_ | refine wp_blockQ ?_ | refine wp_scopeQ ?_
     | ((first | refine wp_skipQ ?_ | refine wp_labelQ ?_ | refine wp_exitQ ?_ | refine wp_retQ ?_); simp only [kQ, Nat.reduceEqDiff, reduceIte])
     | (refine wp_reg B ?_; simp (disch := omega) only [kW, Nat.reduceEqDiff, reduceIte, Nat.reduceLT, Nat.reduceLeDiff, Nat.reduceAdd, Nat.reduceSub, Nat.reduceMul, Nat.reducePow, Nat.reduceDiv, Nat.reduceMod, evIndexAddr, TD.agg, evFieldAddr, ty3, ty22, ty23, ty27, ty65, ty67, ty68, ty70, ty73, fn46, fn41, fn54, fn73, pc, hL, cleanN, hG, nLb, Ne.symm nLb, clean_pls])
     | refine wp_condT rfl ?_ | refine wp_condF rfl ?_)
    first | refine ⟨rfl, _, _, fun j => if j = k then some (h.next + 1) else gb j, rfl, rfl, rfl, ?_, rfl, ?_⟩ | refine ⟨_, _, fun j => if j = k then some (h.next + 1) else gb j, rfl, rfl, rfl, ?_, rfl, ?_⟩
    ·rw [hpp]; rfl
    ·refine (fun pu => ⟨pu.1, fun j hj => if_neg (by omega), pu.2⟩) (s.push hk p (B := h.next + 1) ?_ ?_ ?_ ?_ ?_ ?_)
     ·dsimp only
      rw [upd_eq]; rfl
     ·dsimp only
      rw [upd_ne _ _ (by omega), upd_eq, hpp]
     ·omega
     ·show h.next ≤ h.next + 1 + 1
      omega
     ·intro i hi h2 h3
      dsimp only
      rw [upd_ne _ _ h2, upd_ne _ _ (by omega), upd_ne _ _ (fun c => h3 (by rw [hb, c])), upd_ne _ _ (by omega)]
     ·intro i hi
      have hi : h.next + 1 + 1 ≤ i := hi
      dsimp only
      rw [upd_ne _ _ (by omega), upd_ne _ _ (by omega), upd_ne _ _ (by omega), upd_ne _ _ (by omega)]
      exact s.born i (by omega)
  ·rintro e s' ⟨rfl, tm, h1, gb1, rfl, t0, t1, t2, t6, s1, hgb1, kp1⟩
   simp only [thenQ_normal]
   have hL1 := s1.link k hk
   have hM1 := s1.map k hk
   have lL1 := s1.ltL hk
   have lM1 := s1.ltM hk
   obtain ⟨m, hm⟩ : ∃ m, m = (st.T k).length := ⟨_, rfl⟩
   have hT1 : (List.map ent ((st.pushS k p).T k)).length = m := by rw [List.length_map, hm]; rfl
   have hmn : m ≤ n := by
    have := Pg.nodup_len _ (List.range n) (s.key k hk).1 fun x hx => List.mem_range.2 ((s.key k hk).2 x hx)
    simp only [List.length_map, List.length_range] at this
    omega
   have hmk : evMakeSlice tab 23 (.flat (.int .i64 0)) (.flat (.int .i64 (m : Int))) h1 = _ := evMakeSlice_nat tab 23 .i64 .i64 0 m h1
   refine wp_seqQ ?_
   refine wp_reg B ?_
   simp (disch := omega) only [kW, kG, Nat.reduceEqDiff, reduceIte, Nat.reduceLT, Nat.reduceLeDiff, Nat.reduceAdd, Nat.reduceSub, Nat.reduceMul, Nat.reducePow, Nat.reduceDiv, Nat.reduceMod, evIndexAddr, TD.agg, evFieldAddr, ty3, ty22, ty23, ty27, ty65, ty67, ty68, ty70, ty73, fn46, fn41, fn54, fn73, t0, t1, t2, t6, hL1, hM1, hT1, hmk]
   refine WP.tms (fun u => u = 0 ∨ u = 1 ∨ u = 2 ∨ u = 6 ∨ u = 7) fun tm2 e2 => ?_
   have u0 : tm2 0 = some (.ptr y.C 0) := (e2 0 (by simp)).trans t0
   have u1 : tm2 1 = some (pc k) := (e2 1 (by simp)).trans t1
   have u2 : tm2 2 = some (pl p.l) := (e2 2 (by simp)).trans t2
   have u6 : tm2 6 = some (.ptr (y.L k) 0) := (e2 6 (by simp)).trans t6
   have u7 : tm2 7 = some (.slice h1.next 0 0 (.exact m)) := (e2 7 (by simp)).trans rfl
   clear e2 t0 t1 t2 t6 tm
   refine wp_seqQ ?_
   obtain ⟨tmB, htB⟩ : ∃ tmB, tmB = upd (upd (upd (upd tm2 43 (some (.ptr (y.L k) 0))) 44 (some (.ptr (y.L k) 0))) 45 (some (.ptr (y.L k) 2))) 46 (some (.map (y.M k))) := ⟨_, rfl⟩
   have hne1 : y.M k ≠ h1.next := by omega
   have hne2 : y.L k ≠ h1.next := by omega
   have hB7 : tmB 7 = some (.slice h1.next 0 0 (.exact m)) := by rw [htB]; exact u7
   have hT1' : (List.map ent (st.T k)).length = m := hT1
   refine wp_range B (pre := [_, _, _, _]) (s0 := ⟨tmB, 76, ⟨h1.next + 1, h1.low, upd h1.m h1.next (some (.cells (List.replicate m (.flat (.int .i64 0))) 3 false))⟩, []⟩)
    (sE := ⟨upd (upd (addTm tmB h1.next m .top m) 48 (some (.tuple [.flat (.bool false)]))) 49 (some (.flat (.bool false))), 76, ⟨h1.next + 1 + m, 0, upd (upd h1.m h1.next (some (.perm (((st.T k).map ent).map (fun e => jc e.1)) 3 false))) (y.M k) none⟩, []⟩) (mr := y.M k) (l := (st.T k).map ent)
    (fun yy vis => ⟨addTm tmB h1.next m (.flat (.pointer (some ⟨yy, 0, none⟩))) vis.length, 76, addHp h1 h1.next m (y.M k) vis, []⟩) rfl ?_ ty68 rfl ?_ ?_ ?_ ?_ ?_ ?_ ?_ ?_ ?_ ?_ ?_ ?_ ?_ ?_ ?_ ?_
   ·simp (disch := omega) only [kW, kG, Nat.reduceEqDiff, reduceIte, Nat.reduceLT, Nat.reduceLeDiff, Nat.reduceAdd, Nat.reduceSub, Nat.reduceMul, Nat.reducePow, Nat.reduceDiv, Nat.reduceMod, evIndexAddr, TD.agg, evFieldAddr, ty3, ty22, ty23, ty27, ty65, ty67, ty68, ty70, ty73, fn46, fn41, fn54, fn73, u0, u1, u2, u6, hL1, hM1, hne1, hne2, htB]
   ·rw [htB]; rfl
   ·show upd h1.m h1.next _ (y.M k) = _
    rw [upd_ne _ _ hne1]; exact hM1
   ·show y.M k < h1.next + 1
    omega
   ·intro yy; rfl
   ·intro yy vis; exact addTm_it _ _ _ _ _
   ·intro yy vis; rfl
   ·refine ⟨?_, ?_, ?_, ?_, ?_, ?_⟩ <;> (show _ < 76; decide)
   ·decide
   ·intro yy vis z u hz hnd hsub hnz
    have hlt : vis.length < m := by
     have := nodup_le (vis ++ [z]) _ (by
      rw [List.nodup_append]
      exact ⟨hnd, by simp, fun a ha b hb => by simp only [List.mem_singleton] at hb; subst hb; intro e; subst e; exact hnz ha⟩) (fun x hx => by
      rcases List.mem_append.1 hx with hx | hx
      ·exact hsub x hx
      ·simp only [List.mem_singleton] at hx; subst hx; exact List.mem_map.2 ⟨_, hz, rfl⟩)
     simp only [List.length_append, List.length_singleton, List.length_map] at this
     omega
    have b7 := addTm_o tmB h1.next m (.flat (.pointer (some ⟨yy, 0, none⟩))) vis.length hB7
    refine WP.ex ?_
    unfold fillS addHp
    dsimp only
    refine wp_reg B ?_
    simp (disch := omega) only [kW, kG, Nat.reduceEqDiff, reduceIte, Nat.reduceLT, Nat.reduceLeDiff, Nat.reduceAdd, Nat.reduceSub, Nat.reduceMul, Nat.reducePow, Nat.reduceDiv, Nat.reduceMod, evIndexAddr, TD.agg, evFieldAddr, ty3, ty22, ty23, ty27, ty65, ty67, ty68, ty70, ty73, fn46, fn41, fn54, fn73, b7, hne1, Ne.symm hne1, cleanI]
    have hml : m - vis.length = m - (vis.length + 1) + 1 := by omega
    have hset : ((vis.map jc ++ List.replicate (m - vis.length) (AV.flat (.int .i64 0))).set vis.length (AV.flat (.int .i64 z))) = (vis ++ [z]).map jc ++ List.replicate (m - (vis ++ [z]).length) (AV.flat (.int .i64 0)) := by
     have := set_app (vis.map jc) (m - (vis.length + 1)) (.flat (.int .i64 0)) (.flat (.int .i64 z))
     rw [List.length_map] at this
     rw [hml, this]
     simp only [List.map_append, List.map_cons, List.map_nil, List.length_append, List.length_singleton, jc]
    first | refine ⟨rfl, ?_⟩ | skip
    refine ⟨fun t => ?_, rfl, rfl, ?_, ?_⟩
    ·exact addTm_step tmB h1.next m _ vis.length z u _ (fun ρ v => ent_top hz ρ v) t
    ·simp only [List.length_append, List.length_singleton]; omega
    ·intro i o' hi
     dsimp only at hi ⊢
     by_cases e1 : i = y.M k
     ·subst e1; rw [upd_eq] at hi; cases hi
     ·rw [upd_ne _ _ e1] at hi
      by_cases e2 : i = h1.next
      ·subst e2
       rw [upd_eq] at hi ⊢
       refine ⟨_, rfl, ?_⟩
       simp only [Option.some.injEq] at hi
       subst hi
       intro ρ n' x hx
       rw [hset] at hx
       simpa only [List.map_append, List.map_cons, List.map_nil, List.length_append, List.length_singleton] using hx
      ·rw [upd_ne _ _ e2] at hi
       have := lt_next s1.born hi
       exact ⟨o', by rw [upd_ne _ _ e2, upd_ne _ _ (by omega), upd_ne _ _ e1, upd_ne _ _ e2]; exact hi, fun _ _ _ h => h⟩
   ·intro yy vis hnd hsub
    have := nodup_le vis _ hnd hsub
    simp only [List.length_map] at this hT1'
    show h1.next + 1 + vis.length ≤ h1.next + 1 + m
    omega
   ·intro yy vis hp
    have hvl : vis.length = m := by rw [hp.length_eq, List.length_map, hT1']
    refine ⟨fun t => ?_, rfl, rfl, ?_, ?_⟩
    ·have := le_upd (tm := addTm tmB h1.next m (.flat (.pointer (some ⟨yy, 0, none⟩))) m) (tm' := addTm tmB h1.next m .top m) (t := 48) (a := .tuple [.flat (.bool false)]) (b := .tuple [.flat (.bool false)]) (fun _ => True) (fun _ _ h => h) (addTm_top _ _ _ _ _ _)
     have := le_upd (t := 49) (a := .flat (.bool false)) (b := .flat (.bool false)) (fun _ => True) (fun _ _ h => h) (fun u _ => this u trivial) t trivial
     rw [← hvl] at this ⊢
     exact this
    ·show h1.next + 1 + m = h1.next + 1 + vis.length
     omega
    ·intro i o' hi
     simp only [endS, addHp] at hi ⊢
     by_cases e1 : i = y.M k
     ·subst e1; rw [upd_eq] at hi; cases hi
     ·rw [upd_ne _ _ e1] at hi ⊢
      by_cases e2 : i = h1.next
      ·subst e2
       rw [upd_eq] at hi ⊢
       refine ⟨_, rfl, ?_⟩
       simp only [Option.some.injEq] at hi
       subst hi
       intro ρ n' x hx
       rw [hvl, Nat.sub_self, List.replicate_zero, List.append_nil] at hx
       simp only [AO.rel] at hx ⊢
       have hpj := hp.map jc
       rw [List.map_map] at hpj
       exact ⟨_, hpj, hx⟩
      ·rw [upd_ne _ _ e2] at hi ⊢
       exact ⟨o', hi, fun _ _ _ h => h⟩
   ·show upd _ (y.M k) none (y.M k) = none
    rw [upd_eq]
   ·exact Nat.le_refl _
   ·show h1.next + 1 ≤ h1.next + 1 + m
    omega
   ·intro _
    refine ⟨by show h1.next + 1 ≤ h1.next + 1 + m; omega, Nat.zero_le _, fun i hi => absurd hi (Nat.not_lt_zero _), fun hb i hi => ?_⟩
    have hi : h1.next + 1 + m ≤ i := hi
    show upd (upd (upd h1.m h1.next _) (y.M k) none) (y.M k) _ i = none
    rw [upd_ne _ _ (by omega), upd_ne _ _ (by omega), upd_ne _ _ (by omega)]
    exact s1.born i (by omega)
   ·simp only [thenQ_normal]
    refine WP.tms (fun u => u = 0 ∨ u = 1 ∨ u = 2 ∨ u = 6 ∨ u = 7) fun tm3 e3 => ?_
    have keep : ∀ u, u = 0 ∨ u = 1 ∨ u = 2 ∨ u = 6 → tm3 u = tm2 u := fun u hu => by
     rw [e3 u (by omega), upd_ne _ _ (by omega), upd_ne _ _ (by omega), addTm_keep _ _ _ _ _ _ (by omega), htB, upd_ne _ _ (by omega), upd_ne _ _ (by omega), upd_ne _ _ (by omega), upd_ne _ _ (by omega)]
    have v0 := (keep 0 (by omega)).trans u0
    have v1 := (keep 1 (by omega)).trans u1
    have v2 := (keep 2 (by omega)).trans u2
    have v6 := (keep 6 (by omega)).trans u6
    have v7 : tm3 7 = some (.slice h1.next 0 m (.exact m)) := by
     rw [e3 7 (by omega), upd_ne _ _ (by omega), upd_ne _ _ (by omega), addTm_o _ _ _ _ _ hB7]
    clear e3 keep u0 u1 u2 u6 u7 htB hB7 tmB tm2
    refine WP.name fun h3 hh3 => ?_
    obtain ⟨Lk, hLk⟩ : ∃ Lk, Lk = ((st.T k).map ent).map (·.1) := ⟨_, rfl⟩
    have hl3 : m = Lk.length := by rw [hLk, List.length_map, hT1']
    have hg3 : h3.m h1.next = some (.perm (Lk.map jc) 3 false) := by
     rw [hh3, hLk]
     show upd (upd (upd h1.m h1.next _) (y.M k) none) (y.M k) _ h1.next = _
     rw [upd_ne _ _ (Ne.symm hne1), upd_ne _ _ (Ne.symm hne1), upd_eq]
     simp only [List.map_map]; rfl
    have n3 : h3.next = h1.next + 1 + m := by rw [hh3]
    have old3 : ∀ i, i < h1.next → h3.m i = h1.m i := fun i hi => by
     rw [hh3]
     show upd (upd (upd h1.m h1.next _) (y.M k) none) (y.M k) _ i = _
     by_cases e : i = y.M k
     ·subst e; rw [upd_eq]; exact hM1.symm
     ·rw [upd_ne _ _ e, upd_ne _ _ e, upd_ne _ _ (by omega)]
    have born3 : ∀ i, h3.next ≤ i → h3.m i = none := fun i hi => by
     rw [n3] at hi
     rw [hh3]
     show upd (upd (upd h1.m h1.next _) (y.M k) none) (y.M k) _ i = _
     rw [upd_ne _ _ (by omega), upd_ne _ _ (by omega), upd_ne _ _ (by omega)]
     exact s1.born i (by omega)
    have hbk : srtI Lk = (keys (st.T k)).map fun (x : Nat) => (x : Int) := by rw [hLk]; exact srt_keys (s.key k hk).1 (s.key k hk).2
    obtain ⟨h4, hh4⟩ : ∃ h4, h3.put h1.next (some (.cells ((srtI Lk).map jc) 3 false)) = some h4 := ⟨_, put_some (by omega)⟩
    have sc := sort_sem (c := .exact m) hg3 hl3 (by omega) hh4
    have le4 := Hp.put_le hh4
    rw [hbk, map_jc] at hh4
    obtain ⟨_, n4, _, _, g4⟩ := Hp.put_get hh4
    simp only [Hp.get] at g4
    have lk9 : (keys (st.T k)).length = m := by rw [(keys_perm (s.key k hk).1 (s.key k hk).2).length_eq, List.length_map, hm]
    have b4 : h4.m h1.next = some (.cells ((keys (st.T k)).map pc) 3 false) := by rw [g4, if_pos rfl]
    have old4 : ∀ i, i < h1.next → h4.m i = h1.m i := fun i hi => by rw [g4, if_neg (by omega)]; exact old3 i hi
    have born4 : ∀ i, h4.next ≤ i → h4.m i = none := fun i hi => by rw [g4, if_neg (by omega)]; exact born3 i (by omega)
    have s4 := s1.mono old4 born4
    have kp4 := kp1.trans (Keep.mono (y := y) (n := n) (gb := gb1) old4 (by omega))
    obtain ⟨call, B, c1, _⟩ := call_at tables.ok mixed [] sc le4
    clear hh3 hh4 g4 old3 born3 hg3 sc le4
    repeat (first
     | refine wp_seqQ ?_ | refine wp_blockQ ?_ | refine wp_scopeQ ?_
     | ((first | refine wp_skipQ ?_ | refine wp_labelQ ?_ | refine wp_exitQ ?_ | refine wp_retQ ?_); simp only [kQ, Nat.reduceEqDiff, reduceIte])
     | (refine wp_reg B ?_; simp (disch := omega) only [kW, Nat.reduceEqDiff, reduceIte, Nat.reduceLT, Nat.reduceLeDiff, Nat.reduceAdd, Nat.reduceSub, Nat.reduceMul, Nat.reducePow, Nat.reduceDiv, Nat.reduceMod, evIndexAddr, TD.agg, evFieldAddr, ty3, ty22, ty23, ty27, ty65, ty67, ty68, ty70, ty73, fn46, fn41, fn54, fn73, v0, v1, v2, v6, v7, c1])
     | refine wp_condT rfl ?_ | refine wp_condF rfl ?_)
    rw [← orbit_keys] at hr
    refine wp_loopQ (fun f' z => ∃ (i : Nat) (tm : Nat → Option AV) (h5 : Hp) (gb5 : Nat → Option Nat) (st5 : St n), z = ⟨tm, 76, h5, []⟩ ∧ f' = m - i ∧ i ≤ m ∧ tm 0 = some (.ptr y.C 0) ∧ tm 1 = some (pc k) ∧ tm 2 = some (pl p.l) ∧ tm 6 = some (.ptr (y.L k) 0) ∧ tm 58 = some (.slice h1.next 0 m (.exact m)) ∧ tm 59 = some (.flat (.int .i64 (m : Int))) ∧ tm 60 = some (.flat (.int .i64 (i : Int))) ∧
     Stands y β G gb5 st5 h5 ∧ (∀ j, j < k → gb5 j = gb j) ∧ Keep y n gb1 h4 gb5 h5 ∧ Grow (st.pushS k p) st5 ∧ h5.m h1.next = some (.cells ((keys (st.T k)).map pc) 3 false) ∧ orbitAll (run false β f false k) (pick false (st.T k) k) p ((keys (st.T k)).drop i) st5 = some st') m ?_ ?_
    ·exact ⟨0, _, _, gb1, _, rfl, rfl, Nat.zero_le _, v0, v1, v2, v6, rfl, rfl, rfl, s4, hgb1, Keep.refl _ _ _ _, Grow.refl _, b4, hr⟩
    ·rintro f' z ⟨i, tm, h5, gb5, st5, rfl, rfl, hi, t0, t1, t2, t6, t58, t59, t60, s5, hgb5, kp5, gr5, b5, hl5⟩
     repeat (first
      | refine wp_seqQ ?_ | refine wp_blockQ ?_ | refine wp_scopeQ ?_
      | ((first | refine wp_skipQ ?_ | refine wp_labelQ ?_ | refine wp_exitQ ?_ | refine wp_retQ ?_); simp only [kQ, Nat.reduceEqDiff, reduceIte])
      | (refine wp_reg B ?_; simp (disch := omega) only [kW, Nat.reduceEqDiff, reduceIte, Nat.reduceLT, Nat.reduceLeDiff, Nat.reduceAdd, Nat.reduceSub, Nat.reduceMul, Nat.reducePow, Nat.reduceDiv, Nat.reduceMod, evIndexAddr, TD.agg, evFieldAddr, ty3, ty22, ty23, ty27, ty65, ty67, ty68, ty70, ty73, fn46, fn41, fn54, fn73, t0, t1, t2, t6, t58, t59, t60])
      | refine wp_condT rfl ?_ | refine wp_condF rfl ?_)
     refine wp_if rfl (fun ilt => ?_) (fun ige => ?_)
     ·obtain ⟨x, hx⟩ : ∃ x, (keys (st.T k))[i]? = some x := ⟨_, List.getElem?_eq_getElem (by omega)⟩
      have hd : (keys (st.T k)).drop i = x :: (keys (st.T k)).drop (i + 1) := by
       rw [List.drop_eq_getElem_cons (by omega)]
       congr 1
       exact (List.getElem?_eq_some_iff.1 hx).2
      obtain ⟨hxn, hxs⟩ := mem_keys (List.mem_of_getElem? hx)
      obtain ⟨t, ht⟩ := Option.isSome_iff_exists.1 hxs
      have ht5 : Ch.get (st5.T k) x = some t := gr5.T k x t ht
      have hpk : pick false (st.T k) k st5 x = some t := by unfold pick; rw [if_pos (.inr hxs)]; exact ht5
      rw [hd, orbitAll, hpk] at hl5
      simp only at hl5
      cases hrun : run false β f false k (t.mul p) st5 with
      | none => rw [hrun] at hl5; cases hl5
      | some st6 =>
       rw [hrun] at hl5
       simp only at hl5
       have hgr := orbitAll_grow (fun q st r e => run_grow false β f false k q st r e) p _ _ _ hl5
       obtain ⟨e, h6, sc, le, rfl, gb6, s6, hgb6, kp6⟩ := ihL gb5 st5 h5 s5 k (t.mul p) st6 hk hrun fun j hj => Nat.le_trans (hgr.S j) (hlen j hj)
       obtain ⟨call, B, c1, c2⟩ := call_at tables.ok mixed [EcMul] sc le
       have c3 : ∀ a h, call 54 a h = EcMul.ans a h := fun a h => (c2 _ a h (by decide)).trans (tabL_hit EcMul [] _ a h rfl)
       have k2 : ∀ h, EcMul.ans [pl t.l, pl p.l] h = some (.ret (pl (t.mul p).l), h) := fun h => EcMul_ans t.l p.l h (by rw [t.ok.len]; omega) (fun x hx => by rw [p.ok.len]; exact Pm.small t x hx) (by rw [p.ok.len]; omega)
       have hL5 := s5.link k hk
       have hM5 := s5.map k hk
       have g2 := findM_ent x (st5.T k)
       rw [ht5] at g2
       simp only [Option.map_some] at g2
       have hbc : (List.map pc (keys (st.T k)))[i]? = some (.flat (.int .i64 (x : Int))) := by rw [List.getElem?_map, hx]; rfl
       simp only [pc] at t1 c1
       repeat (first
        | refine wp_seqQ ?_ | refine wp_blockQ ?_ | refine wp_scopeQ ?_
        | ((first | refine wp_skipQ ?_ | refine wp_labelQ ?_ | refine wp_exitQ ?_ | refine wp_retQ ?_); simp only [kQ, Nat.reduceEqDiff, reduceIte])
        | (refine wp_reg B ?_; simp (disch := omega) only [kW, Nat.reduceEqDiff, reduceIte, Nat.reduceLT, Nat.reduceLeDiff, Nat.reduceAdd, Nat.reduceSub, Nat.reduceMul, Nat.reducePow, Nat.reduceDiv, Nat.reduceMod, evIndexAddr, TD.agg, evFieldAddr, ty3, ty22, ty23, ty27, ty65, ty67, ty68, ty70, ty73, fn46, fn41, fn54, fn73, t0, t1, t2, t6, t58, t59, t60, b5, hbc, lk9, hL5, hM5, g2, c3, k2, c1])
        | refine wp_condT rfl ?_ | refine wp_condF rfl ?_)
       have b6 : h6.m h1.next = h5.m h1.next := kp6.m _ (by have := kp5.next; omega) fun j hj => ⟨by have := s1.ltL hj; omega, by have := s1.ltM hj; omega, fun c => by
        rcases kp5.g j _ hj c with h | h
        ·have := lt_next s1.born (s1.gen hj h); omega
        ·omega⟩
       have gr6 : Grow st5 st6 := run_grow false β f false k _ _ _ hrun
       refine ⟨_, ?_, i + 1, _, _, gb6, st6, rfl, rfl, by omega, t0, t1, t2, t6, t58, t59, rfl, s6, fun j hj => (hgb6 j (by omega)).trans (hgb5 j hj), kp5.trans kp6, gr5.trans gr6, b6.trans b5, hl5⟩
       omega
     ·obtain rfl : i = m := by omega
      rw [List.drop_eq_nil_of_le (by omega)] at hl5
      simp only [orbitAll, Option.some.injEq] at hl5
      subst hl5
      repeat (first
       | refine wp_seqQ ?_ | refine wp_blockQ ?_ | refine wp_scopeQ ?_
       | ((first | refine wp_skipQ ?_ | refine wp_labelQ ?_ | refine wp_exitQ ?_ | refine wp_retQ ?_); simp only [kQ, Nat.reduceEqDiff, reduceIte])
       | (refine wp_reg B ?_; simp (disch := omega) only [kW, Nat.reduceEqDiff, reduceIte, Nat.reduceLT, Nat.reduceLeDiff, Nat.reduceAdd, Nat.reduceSub, Nat.reduceMul, Nat.reducePow, Nat.reduceDiv, Nat.reduceMod, evIndexAddr, TD.agg, evFieldAddr, ty3, ty22, ty23, ty27, ty65, ty67, ty68, ty70, ty73, fn46, fn41, fn54, fn73, t0, t1])
       | refine wp_condT rfl ?_ | refine wp_condF rfl ?_)
      simp (disch := omega) only [kS, Nat.reduceEqDiff, reduceIte, Nat.reduceLT, Nat.reduceLeDiff, Nat.reduceAdd, Nat.reduceSub, Nat.reduceMul, Nat.reducePow, Nat.reduceDiv, Nat.reduceMod, evIndexAddr, TD.agg, evFieldAddr, ty3, ty22, ty23, ty27, ty65, ty67, ty68, ty70, ty73, fn46, fn41, fn54, fn73]
      exact ⟨gb5, s5, hgb5, kp4.trans kp5⟩
end Go.Proofs.Ytkffcclalncgdaa.Iv
end
section
set_option maxHeartbeats 8000000
set_option linter.unusedVariables false
set_option linter.unusedSimpArgs false
set_option maxRecDepth 10000
namespace Go.Proofs.Ytkffcclalncgdaa.Iv
open Go Go.Iv Go.RowKit
def ic (x : Int) : AV := .flat (.int .i64 x)
def irow (r : List Int) : AV := .isl (r.map ic) 1 0 r.length
theorem irow_pure (r : List Int) : (irow r).pure = true := by simp only [irow, AV.pure]; exact pureL_map (fun _ => rfl) r
theorem ir_get {p : List Int} {i : Nat} {x : Int} (h : p[i]? = some x) : (p.map ic)[i]? = some (.flat (.int .i64 x)) := by rw [List.getElem?_map, h]; rfl
def OkTo (n : Nat) (p : List Int) (i : Nat) : Prop := ∀ j, j < i → ∀ x, p[j]? = some x → 0 ≤ x ∧ x < n ∧ ∀ k, k < j → p[k]? ≠ some x
def metL (n : Nat) (p : List Int) (i : Nat) : List AV := (List.range n).map fun (y : Nat) => .flat (.bool (decide ((y : Int) ∈ p.take i)))
open Classical in
noncomputable def permB (n : Nat) (p : List Int) : Bool := decide (p.length = n ∧ OkTo n p n)
theorem permB_true {n : Nat} {p : List Int} (h : p.length = n) (k : OkTo n p n) : permB n p = true := by unfold permB; simp [h, k]
theorem permB_false {n : Nat} {p : List Int} (k : ¬ (p.length = n ∧ OkTo n p n)) : permB n p = false := by unfold permB; simpa using k
theorem metL_get {n : Nat} {p : List Int} {i y : Nat} (h : y < n) : (metL n p i)[y]? = some (.flat (.bool (decide ((y : Int) ∈ p.take i)))) := by unfold metL; rw [List.getElem?_map, List.getElem?_range h]; rfl
theorem metL_set {n : Nat} {p : List Int} {i y : Nat} (hy : p[i]? = some (y : Int)) : (metL n p i).set y (.flat (.bool true)) = metL n p (i + 1) := by
 have ht : p.take (i + 1) = p.take i ++ [(y : Int)] := by rw [List.take_add_one, hy]; rfl
 apply List.ext_getElem?
 intro z
 by_cases hz : z < n
 ·by_cases e : z = y
  ·subst e
   rw [List.getElem?_set_self (by simp [metL]; exact hz), metL_get hz, ht]
   simp
  ·rw [List.getElem?_set_ne (fun c => e c.symm), metL_get hz, metL_get hz, ht]
   have : ¬ (z : Int) = (y : Int) := by omega
   simp [this]
 ·rw [List.getElem?_eq_none (by simp [metL]; omega), List.getElem?_eq_none (by simp [metL]; omega)]
end Go.Proofs.Ytkffcclalncgdaa.Iv
end
section
set_option maxHeartbeats 8000000
set_option linter.unusedVariables false
set_option linter.unusedSimpArgs false
set_option maxRecDepth 10000
namespace Go.Proofs.Ytkffcclalncgdaa.Iv
open Go Go.Iv Go.RowKit
noncomputable def checkP (p : List Int) : Int := if 64 < p.length then 3 else if permB p.length p = true then 0 else 180
theorem pcheck_sem (p : List Int) (hp : p.length < 4611686018427387904) (h : Hp) : SemCall Try.prog 28 [irow p] h (.ret (.flat (.int .i64 (checkP p)))) h := by
 refine sem_pure tables.ok Try.func28 rfl rfl rfl rfl (by simp [pureL, irow_pure]) rfl ?_ h
 have B := base0
 obtain ⟨m, hm0⟩ : ∃ m, m = p.length := ⟨_, rfl⟩
 have lp : irow p = .isl (p.map ic) 1 0 m := by rw [hm0]; rfl
 rw [lp]
 by_cases h64 : 64 < m
 ·rw [checkP, if_pos (by omega)]
  unfold Try.f28 bodyOf entry; simp only [Option.getD_some, List.length_cons, List.length_nil, Nat.reduceAdd, Nat.reduceSub]
  repeat (first
   | refine wp_seqQ ?_ | refine wp_blockQ ?_ | refine wp_scopeQ ?_
   | ((first | refine wp_skipQ ?_ | refine wp_labelQ ?_ | refine wp_exitQ ?_ | refine wp_retQ ?_); simp only [kQ, Nat.reduceEqDiff, reduceIte])
   | (refine wp_reg B ?_; simp (disch := omega) only [kW, Nat.reduceEqDiff, reduceIte, Nat.reduceLT, Nat.reduceLeDiff, Nat.reduceAdd, Nat.reduceSub, Nat.reduceMul, Nat.reducePow, Nat.reduceDiv, Nat.reduceMod, evIndexAddr, TD.agg, evFieldAddr, binA_eqB ty4, binA_neB ty4, ty3, ty4, ty23, ty84])
   | refine wp_condT rfl ?_ | refine wp_condF rfl ?_)
  simp (disch := omega) only [kS, Nat.reduceEqDiff, reduceIte, Nat.reduceLT, Nat.reduceLeDiff, Nat.reduceAdd, Nat.reduceSub, Nat.reduceMul, Nat.reducePow, Nat.reduceDiv, Nat.reduceMod, evIndexAddr, TD.agg, evFieldAddr, binA_eqB ty4, binA_neB ty4, ty3, ty4, ty23, ty84]
 ·rw [checkP, if_neg (by omega)]
  unfold Try.f28 bodyOf entry; simp only [Option.getD_some, List.length_cons, List.length_nil, Nat.reduceAdd, Nat.reduceSub]
  repeat (first
   | refine wp_seqQ ?_ | refine wp_blockQ ?_ | refine wp_scopeQ ?_
   | ((first | refine wp_skipQ ?_ | refine wp_labelQ ?_ | refine wp_exitQ ?_ | refine wp_retQ ?_); simp only [kQ, Nat.reduceEqDiff, reduceIte])
   | (refine wp_reg B ?_; simp (disch := omega) only [kW, Nat.reduceEqDiff, reduceIte, Nat.reduceLT, Nat.reduceLeDiff, Nat.reduceAdd, Nat.reduceSub, Nat.reduceMul, Nat.reducePow, Nat.reduceDiv, Nat.reduceMod, evIndexAddr, TD.agg, evFieldAddr, binA_eqB ty4, binA_neB ty4, ty3, ty4, ty23, ty84])
   | refine wp_condT rfl ?_ | refine wp_condF rfl ?_)
  refine wp_loopQ (fun k s => ∃ (i : Nat) (tm : Nat → Option AV) (h : Hp), s = ⟨tm, 31, h, []⟩ ∧ k = m - i ∧ i ≤ m ∧ tm 0 = some (.isl (p.map ic) 1 0 m) ∧ tm 9 = some (.isl (p.map ic) 1 0 m) ∧ tm 3 = some (.ptr 0 0) ∧ tm 10 = some (.flat (.int .i64 (m : Int))) ∧ tm 11 = some (.flat (.int .i64 (i : Int))) ∧ h.next = 1 ∧ h.m 0 = some (.cells (metL 64 p i) 84 false) ∧ OkTo m p i) m ?_ ?_
  ·refine ⟨0, _, _, rfl, rfl, Nat.zero_le _, rfl, rfl, rfl, rfl, rfl, rfl, ?_, fun j hj => by omega⟩
   simp only [upd_eq, metL, List.take_zero, List.not_mem_nil, decide_false, Hp.empty]
   rfl
  ·rintro k s ⟨i, tm, h, rfl, rfl, hi, t0, t9, t3, t10, t11, hnx, hm, hok⟩
   repeat (first
    | refine wp_seqQ ?_ | refine wp_blockQ ?_ | refine wp_scopeQ ?_
    | ((first | refine wp_skipQ ?_ | refine wp_labelQ ?_ | refine wp_exitQ ?_ | refine wp_retQ ?_); simp only [kQ, Nat.reduceEqDiff, reduceIte])
    | (refine wp_reg B ?_; simp (disch := omega) only [kW, Nat.reduceEqDiff, reduceIte, Nat.reduceLT, Nat.reduceLeDiff, Nat.reduceAdd, Nat.reduceSub, Nat.reduceMul, Nat.reducePow, Nat.reduceDiv, Nat.reduceMod, evIndexAddr, TD.agg, evFieldAddr, binA_eqB ty4, binA_neB ty4, ty3, ty4, ty23, ty84, t0, t9, t3, t10, t11])
    | refine wp_condT rfl ?_ | refine wp_condF rfl ?_)
   refine wp_if rfl (fun ilt => ?_) (fun ige => ?_)
   ·obtain ⟨x, hx⟩ : ∃ x, p[i]? = some x := ⟨p[i], List.getElem?_eq_getElem (by omega)⟩
    have g1 := ir_get hx
    by_cases x0 : x < 0
    ·rw [permB_false fun k => by have := (k.2 i (by omega) x hx).1; omega, if_neg Bool.false_ne_true]
     repeat (first
      | refine wp_seqQ ?_ | refine wp_blockQ ?_ | refine wp_scopeQ ?_
      | ((first | refine wp_skipQ ?_ | refine wp_labelQ ?_ | refine wp_exitQ ?_ | refine wp_retQ ?_); simp only [kQ, Nat.reduceEqDiff, reduceIte])
      | (refine wp_reg B ?_; simp (disch := omega) only [kW, Nat.reduceEqDiff, reduceIte, Nat.reduceLT, Nat.reduceLeDiff, Nat.reduceAdd, Nat.reduceSub, Nat.reduceMul, Nat.reducePow, Nat.reduceDiv, Nat.reduceMod, evIndexAddr, TD.agg, evFieldAddr, binA_eqB ty4, binA_neB ty4, ty3, ty4, ty23, ty84, t0, t9, t3, t10, t11, g1])
      | refine wp_condT rfl ?_ | refine wp_condF rfl ?_)
     simp (disch := omega) only [kS, Nat.reduceEqDiff, reduceIte, Nat.reduceLT, Nat.reduceLeDiff, Nat.reduceAdd, Nat.reduceSub, Nat.reduceMul, Nat.reducePow, Nat.reduceDiv, Nat.reduceMod, evIndexAddr, TD.agg, evFieldAddr, binA_eqB ty4, binA_neB ty4, ty3, ty4, ty23, ty84]
    ·by_cases xn : (m : Int) ≤ x
     ·rw [permB_false fun k => by have := (k.2 i (by omega) x hx).2.1; omega, if_neg Bool.false_ne_true]
      repeat (first
       | refine wp_seqQ ?_ | refine wp_blockQ ?_ | refine wp_scopeQ ?_
       | ((first | refine wp_skipQ ?_ | refine wp_labelQ ?_ | refine wp_exitQ ?_ | refine wp_retQ ?_); simp only [kQ, Nat.reduceEqDiff, reduceIte])
       | (refine wp_reg B ?_; simp (disch := omega) only [kW, Nat.reduceEqDiff, reduceIte, Nat.reduceLT, Nat.reduceLeDiff, Nat.reduceAdd, Nat.reduceSub, Nat.reduceMul, Nat.reducePow, Nat.reduceDiv, Nat.reduceMod, evIndexAddr, TD.agg, evFieldAddr, binA_eqB ty4, binA_neB ty4, ty3, ty4, ty23, ty84, t0, t9, t3, t10, t11, g1])
       | refine wp_condT rfl ?_ | refine wp_condF rfl ?_)
      simp (disch := omega) only [kS, Nat.reduceEqDiff, reduceIte, Nat.reduceLT, Nat.reduceLeDiff, Nat.reduceAdd, Nat.reduceSub, Nat.reduceMul, Nat.reducePow, Nat.reduceDiv, Nat.reduceMod, evIndexAddr, TD.agg, evFieldAddr, binA_eqB ty4, binA_neB ty4, ty3, ty4, ty23, ty84]
     ·obtain ⟨y, rfl⟩ := Int.eq_ofNat_of_zero_le (show 0 ≤ x by omega)
      have hy : y < 64 := by omega
      have g2 := metL_get (n := 64) (p := p) (i := i) hy
      have hC : (metL 64 p i).length = 64 := by simp [metL]
      by_cases xm : (y : Int) ∈ p.take i
      ·rw [decide_eq_true xm] at g2
       rw [permB_false fun k => by
        obtain ⟨j, h1, h2⟩ := List.mem_take_iff_getElem.1 xm
        exact (k.2 i (by omega) _ hx).2.2 j (by omega) (by rw [← h2]; exact List.getElem?_eq_getElem _), if_neg Bool.false_ne_true]
       repeat (first
        | refine wp_seqQ ?_ | refine wp_blockQ ?_ | refine wp_scopeQ ?_
        | ((first | refine wp_skipQ ?_ | refine wp_labelQ ?_ | refine wp_exitQ ?_ | refine wp_retQ ?_); simp only [kQ, Nat.reduceEqDiff, reduceIte])
        | (refine wp_reg B ?_; simp (disch := omega) only [kW, Nat.reduceEqDiff, reduceIte, Nat.reduceLT, Nat.reduceLeDiff, Nat.reduceAdd, Nat.reduceSub, Nat.reduceMul, Nat.reducePow, Nat.reduceDiv, Nat.reduceMod, evIndexAddr, TD.agg, evFieldAddr, binA_eqB ty4, binA_neB ty4, ty3, ty4, ty23, ty84, t0, t9, t3, t10, t11, g1, hm, g2, hC])
        | refine wp_condT rfl ?_ | refine wp_condF rfl ?_)
       simp (disch := omega) only [kS, Nat.reduceEqDiff, reduceIte, Nat.reduceLT, Nat.reduceLeDiff, Nat.reduceAdd, Nat.reduceSub, Nat.reduceMul, Nat.reducePow, Nat.reduceDiv, Nat.reduceMod, evIndexAddr, TD.agg, evFieldAddr, binA_eqB ty4, binA_neB ty4, ty3, ty4, ty23, ty84]
      ·rw [decide_eq_false xm] at g2
       repeat (first
        | refine wp_seqQ ?_ | refine wp_blockQ ?_ | refine wp_scopeQ ?_
        | ((first | refine wp_skipQ ?_ | refine wp_labelQ ?_ | refine wp_exitQ ?_ | refine wp_retQ ?_); simp only [kQ, Nat.reduceEqDiff, reduceIte])
        | (refine wp_reg B ?_; simp (disch := omega) only [kW, Nat.reduceEqDiff, reduceIte, Nat.reduceLT, Nat.reduceLeDiff, Nat.reduceAdd, Nat.reduceSub, Nat.reduceMul, Nat.reducePow, Nat.reduceDiv, Nat.reduceMod, evIndexAddr, TD.agg, evFieldAddr, binA_eqB ty4, binA_neB ty4, ty3, ty4, ty23, ty84, t0, t9, t3, t10, t11, g1, hm, g2, hC])
        | refine wp_condT rfl ?_ | refine wp_condF rfl ?_)
       refine ⟨_, ?_, i + 1, _, _, rfl, rfl, by omega, t0, t9, t3, t10, rfl, hnx, ?_, fun j hj z hz => ?_⟩
       ·omega
       ·simp only [upd_eq, metL_set hx]
       ·by_cases e : j = i
        ·subst e
         rw [hx] at hz
         simp only [Option.some.injEq] at hz
         subst hz
         exact ⟨by omega, by omega, fun k hk c => xm (List.mem_take_iff_getElem.2 ⟨k, by omega, (List.getElem?_eq_some_iff.1 c).2⟩)⟩
        ·exact hok j (by omega) z hz
   ·rw [permB_true rfl (by have : i = p.length := by omega
                           rw [← this, this, ← hm0]; rwa [show i = m by omega] at hok)]
    repeat (first
     | refine wp_seqQ ?_ | refine wp_blockQ ?_ | refine wp_scopeQ ?_
     | ((first | refine wp_skipQ ?_ | refine wp_labelQ ?_ | refine wp_exitQ ?_ | refine wp_retQ ?_); simp only [kQ, Nat.reduceEqDiff, reduceIte])
     | (refine wp_reg B ?_; simp (disch := omega) only [kW, Nat.reduceEqDiff, reduceIte, Nat.reduceLT, Nat.reduceLeDiff, Nat.reduceAdd, Nat.reduceSub, Nat.reduceMul, Nat.reducePow, Nat.reduceDiv, Nat.reduceMod, evIndexAddr, TD.agg, evFieldAddr, binA_eqB ty4, binA_neB ty4, ty3, ty4, ty23, ty84, t0, t9, t3, t10, t11])
     | refine wp_condT rfl ?_ | refine wp_condF rfl ?_)
    simp (disch := omega) only [kS, Nat.reduceEqDiff, reduceIte, Nat.reduceLT, Nat.reduceLeDiff, Nat.reduceAdd, Nat.reduceSub, Nat.reduceMul, Nat.reducePow, Nat.reduceDiv, Nat.reduceMod, evIndexAddr, TD.agg, evFieldAddr, binA_eqB ty4, binA_neB ty4, ty3, ty4, ty23, ty84]
end Go.Proofs.Ytkffcclalncgdaa.Iv
end
section
set_option maxHeartbeats 8000000
set_option linter.unusedVariables false
set_option linter.unusedSimpArgs false
set_option maxRecDepth 10000
namespace Go.Proofs.Ytkffcclalncgdaa.Iv
open Go Go.Iv Go.RowKit
theorem spot0 {w : World} {ad : Addr} {v : Value} (h : w.cell? ad = some v) : ad.spot = none := by
 unfold World.cell? at h
 split at h
 ·cases hs : ad.spot with
  | none => rfl
  | some s => rw [hs] at h; simp at h
 ·cases h
theorem fresh_shut {D : Nat → Prop} {ρ : Ren} {h : Hp} {w w' : World} (k : HR D ρ h w) (hb : Below w.heap.size w w') {l : List AV} (hp : pureL l = true) {ad : Addr} (had : w.heap.size ≤ ad.block) (hc : ∀ j x, l[j]? = some x → ∃ y, w'.cell? (ad.add j) = some y ∧ x.rel ρ y) :
    ∃ ρ' : Ren, Step D ρ h w ρ' h w' ∧ ρ'.reg ad l := by
 have st := Step.below k hb
 obtain ⟨ρ', hρ'⟩ : ∃ ρ' : Ren, ρ' = ⟨ρ.f, fun a m => ρ.reg a m ∨ (a = ad ∧ m = l)⟩ := ⟨_, rfl⟩
 have hf : ∀ i, ρ' i = ρ i := fun i => by rw [hρ']
 have hle : Ren.le ρ ρ' := ⟨fun i x hx => by rw [hf]; exact hx, fun a m hx => by rw [hρ']; exact .inl hx⟩
 have hr' : HR D ρ' h w' := by
  refine ⟨fun i b n o hi ho => ?_, fun i j b n m hi hj => by rw [hf] at hi hj; exact st.hr.inj i j b n m hi hj, st.hr.born, st.hr.far, fun a m hm => ?_⟩
  ·rw [hf] at hi
   obtain ⟨h1, o', h2, h3⟩ := st.hr.obj i b n o hi ho
   exact ⟨h1, o', h2, AO.rel_mono hle h3⟩
  ·rw [hρ'] at hm
   rcases hm with hm | ⟨rfl, rfl⟩
   ·exact (st.hr.reg a m hm).keep hle (fun _ => rfl) (fun hne i n hi => by rw [hf] at hi; exact (st.hr.reg a m hm).own hne i n hi)
   ·refine ⟨fun j x hj => ?_, fun hne i n hi => ?_, hp⟩
    ·obtain ⟨y, h1, h2⟩ := hc j x hj
     exact ⟨y, h1, AV.rel_mono hle _ _ h2⟩
    ·rw [hf] at hi
     cases ho : h.get i with
     | none => rfl
     | some o =>
      obtain ⟨_, o', h2, _⟩ := k.obj i _ n o hi ho
      have := (Array.getElem?_eq_some_iff.1 h2).1
      omega
 refine ⟨ρ', ⟨hr', hle, st.fr, Nat.le_refl _, fun i _ => hf i, fun a m hm => ?_⟩, by rw [hρ']; exact .inr ⟨rfl, rfl⟩⟩
 rw [hρ'] at hm
 rcases hm with hm | ⟨rfl, rfl⟩
 ·exact .inl hm
 ·exact .inr (.inr had)
def CapOk (c : Cap) (n : Nat) : Prop := match c with
 | .exact k => n ≤ k
 | .toEnd e => e = 1
theorem fz_slice {g : Nat → Option (List AV)} {b n : Nat} {c : Cap} {l : List AV} (hg : g b = some l) (hc : CapOk c n) (hl : n ≤ l.length) : Fz g (.slice b 0 n c) (.isl l 1 0 n) := by
 cases c with
 | exact k => exact Fz.slice hg hc (by omega) Nat.one_pos
 | toEnd e => exact Fz.sliceE hg (by omega) Nat.one_pos
def RowAt (h : Hp) (r : AV) (p : List Int) : Prop := r = irow p ∨ (r = .flat (.slice none 0 0) ∧ p = []) ∨ ∃ b c x, r = .slice b 0 p.length c ∧ CapOk c p.length ∧ h.m b = some (.cells (p.map ic) 3 x)
def ValAt (w : World) (v : Value) (p : List Int) : Prop := ∃ A c, v = .slice A p.length c ∧ p.length ≤ c ∧ (0 < p.length → ∃ b o, A = some ⟨b, o, none⟩ ∧ ∀ j (x : Int), p[j]? = some x → w.cell? ⟨b, o + j, none⟩ = some (.int .i64 x))
theorem irow_open {D : Nat → Prop} {ρ : Ren} {h : Hp} {w : World} (k : HR D ρ h w) {p : List Int} {v : Value} (hv : (irow p).rel ρ v) : ValAt w v p := by
 simp only [irow, AV.rel] at hv
 obtain ⟨A, c, rfl, h1, _, _, h4⟩ := hv
 refine ⟨A, c, rfl, h1, fun hl => ?_⟩
 obtain ⟨ad, rfl, hr⟩ := h4 hl
 have hcell : ∀ j (x : Int), p[j]? = some x → w.cell? (ad.add j) = some (.int .i64 x) := fun j x hj => by
  obtain ⟨y, h5, h6⟩ := (k.reg _ _ hr).cell j (ic x) (by simp [hj])
  simp only [ic, AV.rel] at h6
  subst h6
  exact h5
 obtain ⟨b, o, sp⟩ := ad
 have hs : sp = none := spot0 (hcell 0 _ (List.getElem?_eq_getElem hl))
 subst hs
 refine ⟨b, o, by simp [Addr.add], fun j x hj => ?_⟩
 have := hcell j x hj
 cases j with
 | zero => simpa [Addr.add] using this
 | succ j => simpa [Addr.add] using this
theorem row_open {D : Nat → Prop} {ρ : Ren} {h : Hp} {w : World} (k : HR D ρ h w) {p : List Int} {r : AV} {v : Value} (ha : RowAt h r p) (hv : r.rel ρ v) : ValAt w v p := by
 rcases ha with rfl | ⟨rfl, rfl⟩ | ⟨b, cp, x, rfl, hcp, hb⟩
 ·exact irow_open k hv
 ·simp only [AV.rel] at hv
  subst hv
  exact ⟨none, 0, rfl, Nat.le_refl _, fun h => absurd h (by simp)⟩
 ·obtain ⟨b', n', c', hρ, rfl, h1, h2⟩ := slice_shape hv
  have h1 : p.length ≤ c' := by
   cases cp with
   | exact k => rw [h1 k rfl]; exact hcp
   | toEnd e => exact (h2 e rfl).1
  refine ⟨_, c', rfl, h1, fun _ => ⟨b', 0, rfl, fun j z hj => ?_⟩⟩
  obtain ⟨q, s, h5, h6, h7, _⟩ := k.cells hb hρ
  obtain ⟨u, hu1, hu2⟩ := relL_get j h7 (show (p.map ic)[j]? = some (ic z) by simp [hj])
  simp only [ic, AV.rel] at hu2
  subst hu2
  have := cells_at (o := 0) h5 (by simpa using hu1)
  cases j with
  | zero => simpa [Addr.add] using this
  | succ j => simpa [Addr.add] using this
theorem getD_get {p : List Int} {j : Nat} (h : j < p.length) : p[j]? = some (p.getD j 0) := by rw [List.getD_eq_getElem?_getD, List.getElem?_eq_getElem h]; rfl
theorem irow_shut {ρ : Ren} {p : List Int} {ad : Addr} {c : Nat} (hr : ρ.reg ad (p.map ic)) (hc : p.length ≤ c) : (irow p).rel ρ (.slice (some ad) p.length c) := by
 simp only [irow, AV.rel]
 refine ⟨_, c, rfl, hc, by simp, Nat.one_pos, fun _ => ⟨ad, ?_, hr⟩⟩
 cases ad; rfl
theorem clone_at {h : Hp} {r : AV} {p : List Int} (hr : RowAt h r p) (hp : p.length ≤ 1000000) : SemCall Try.prog 51 [r] h (.ret (irow p)) h := by
 intro D ρ w args' hR fr ha
 obtain ⟨v, vs, rfl, hv, hvs⟩ := relL_cons.1 ha
 rw [relL_nil.1 hvs]
 obtain ⟨A, c, rfl, h1, h2⟩ := row_open hR hr hv
 rcases Nat.eq_zero_or_pos p.length with h0 | h0
 ·have hp0 : p = [] := List.eq_nil_of_length_eq_zero h0
  subst hp0
  cases A with
  | none =>
   refine (Try.slices_Clone_int_nil 0 c w).mono ?_
   rintro e w' ⟨rfl, rfl⟩
   exact ⟨ρ, Step.refl hR, _, rfl, by simp only [irow, AV.rel]; exact ⟨none, 0, rfl, Nat.le_refl _, Nat.le_refl _, Nat.one_pos, fun h => absurd h (by simp)⟩⟩
  | some a =>
   refine (Try.slices_Clone_int_zero a c w).mono ?_
   rintro e w' ⟨v', rfl, hown, _, hb⟩
   refine ⟨ρ, Step.below hR hb, v', rfl, ?_⟩
   simp only [irow, AV.rel]
   rcases hown.2 with ⟨rfl, _⟩ | ⟨g, cap, cur, rfl, _⟩
   ·exact ⟨_, _, rfl, Nat.le_refl _, Nat.le_refl _, Nat.one_pos, fun h => absurd h (by simp)⟩
   ·exact ⟨_, _, rfl, Nat.zero_le _, Nat.le_refl _, Nat.one_pos, fun h => absurd h (by simp)⟩
 ·obtain ⟨b, o, rfl, hc⟩ := h2 h0
  refine (Try.slices_Clone_int b o p.length c p w (Nat.le_refl _) (by omega) fun j hj => hc j _ (getD_get hj)).mono ?_
  rintro e w' ⟨v', rfl, hown, hne, hb⟩
  rcases hown.2 with ⟨rfl, h0'⟩ | ⟨g, cap, cur, rfl, hg, hcur, hcap, _, hsz, htk⟩
  ·omega
  ·rw [List.take_of_length_le (Nat.le_refl _)] at htk
   obtain ⟨ρ', st, hreg⟩ := fresh_shut hR hb (l := p.map ic) (pureL_map (fun _ => rfl) p) (ad := ⟨g, 0, none⟩) hg fun j x hj => by
    rw [List.getElem?_map] at hj
    obtain ⟨z, hz, rfl⟩ := Option.map_eq_some_iff.1 hj
    refine ⟨.int .i64 z, ?_, by simp [ic, AV.rel]⟩
    have hjl := (List.getElem?_eq_some_iff.1 hz).1
    have ht : (cur.toList.take (p.length * 1))[j]? = some (.int .i64 z) := by rw [htk, List.getElem?_map, hz]; rfl
    rw [List.getElem?_take_of_lt (by omega)] at ht
    have : w'.cell? ⟨g, 0 + j, none⟩ = some (.int .i64 z) := by
     unfold World.cell?
     rw [hcur]
     simp only [Option.isSome_none, Bool.false_eq_true, if_false, Nat.zero_add]
     rw [← Array.getElem?_toList]; exact ht
    cases j with
    | zero => simpa [Addr.add] using this
    | succ j => simpa [Addr.add] using this
   exact ⟨ρ', st, _, rfl, irow_shut hreg hcap⟩
theorem check_at {h : Hp} {r : AV} {p : List Int} (hr : RowAt h r p) (hp : p.length < 4611686018427387904) : SemCall Try.prog 28 [r] h (.ret (.flat (.int .i64 (checkP p)))) h := by
 rcases hr with rfl | ⟨rfl, rfl⟩ | ⟨b, cp, x, rfl, hcp, hb⟩
 ·exact pcheck_sem p hp h
 ·exact sem_read (fun _ => none) (pcheck_sem [] hp _) (fun i l hi => by cases hi) (FzL.cons (Fz.nil (Nat.le_refl _) Nat.one_pos) (FzL.nil _)) rfl
 ·refine sem_read (args1 := [irow p]) (fun i => if i = b then some (p.map ic) else none) (pcheck_sem p hp _) (fun i l hi => ?_) (FzL.cons (fz_slice (by simp) hcp (by simp)) (FzL.nil _)) (by simp [pureL, irow_pure])
  by_cases e : i = b
  ·subst e
   simp only [if_true, Option.some.injEq] at hi
   subst hi
   exact ⟨pureL_map (fun _ => rfl) p, _, _, x, hb, FzL.refl _ _⟩
  ·simp only [if_neg e] at hi; cases hi
end Go.Proofs.Ytkffcclalncgdaa.Iv
end
section
set_option maxHeartbeats 8000000
set_option linter.unusedVariables false
set_option linter.unusedSimpArgs false
set_option maxRecDepth 10000
namespace Go.Proofs.Ytkffcclalncgdaa.Iv
open Go Go.Iv Go.RowKit Pg Ch
theorem cleanNP : cleanV [Value.pointer none] = true := rfl
theorem both_ok {n : Nat} (hn : n ≤ 1000) {y : Lay} {β : Nat → Nat} {G : AV} (hβ : ∀ k, k < n → β k < n) : ∀ f, AddOk (n := n) y β G f ∧ LookOk (n := n) y β G f
 | 0 => ⟨fun gb st h s k p st' hk hr => by simp [run] at hr, fun gb st h s k p st' hk hr => by simp [run] at hr⟩
 | f + 1 => ⟨add_ok hn hβ f (both_ok hn hβ f).2, look_ok hn hβ f (both_ok hn hβ f).1 (both_ok hn hβ f).2⟩
theorem begun_sem (n x : Nat) (hn : n ≤ 1000) (h : Hp) (Lb Mb : Nat) (a : Int) (l : List (Int × AV)) (hL : h.m Lb = some (.cells [.flat (.int .i64 a), nilS, .map Mb] 70 false)) (hM : h.m Mb = some (.map l)) (lL : Lb < h.next) (lM : Mb < h.next) :
    ∃ e h', SemCall Try.prog 63 [.ptr Lb 0, pc n, pc x] h e h' ∧ Hp.Le h h' ∧ e = .ret (.tuple []) ∧ h'.next = h.next ∧ h'.m = upd (upd h.m Lb (some (.cells [pc x, nilS, .map Mb] 70 false))) Mb (some (.map [((x : Int), pl (List.range n))])) := by
 refine sem_heap tables.ok Try.func63 rfl rfl rfl rfl ?_
 have hne : Mb ≠ Lb := fun c => by rw [c, hL] at hM; cases hM
 simp only [nilS] at hL
 have B : Base Try.prog tab _ := tabL_base [EcStill] tables.ok mixed
 generalize hL : tabL [EcStill] = call at B
 have c_EcStill : ∀ a h, call 38 a h = EcStill.ans a h := fun _ _ => hL ▸ rfl
 clear hL
 have k1 : ∀ h, EcStill.ans [.flat (.int .i64 (n : Int))] h = some (.ret (pl (List.range n)), h) := fun h => EcStill_ans n h hn
 unfold Try.f63 bodyOf entry; simp only [Option.getD_some, List.length_cons, List.length_nil, Nat.reduceAdd, Nat.reduceSub]
 repeat (first
  | refine wp_seqQ ?_ | refine wp_blockQ ?_ | refine wp_scopeQ ?_
  | ((first | refine wp_skipQ ?_ | refine wp_labelQ ?_ | refine wp_exitQ ?_ | refine wp_retQ ?_); simp only [kQ, Nat.reduceEqDiff, reduceIte])
  | ((first | refine wp_dreg B (id := 2) [0, 1, 3, 7, 0, 0, 32, 127] (by kernel_rfl) ?_ | refine wp_reg B ?_); simp (disch := omega) only [kW, kG, Nat.reduceEqDiff, reduceIte, Nat.reduceLT, Nat.reduceLeDiff, Nat.reduceAdd, Nat.reduceSub, Nat.reduceMul, Nat.reducePow, Nat.reduceDiv, Nat.reduceMod, evIndexAddr, TD.agg, evFieldAddr, ty3, ty22, ty23, ty68, ty70, fn38, c_EcStill, EcStill_ans, hL, hM, pc, k1, hne, Ne.symm hne])
  | refine wp_condT rfl ?_ | refine wp_condF rfl ?_)
 simp (disch := omega) only [kS, Nat.reduceEqDiff, reduceIte, Nat.reduceLT, Nat.reduceLeDiff, Nat.reduceAdd, Nat.reduceSub, Nat.reduceMul, Nat.reducePow, Nat.reduceDiv, Nat.reduceMod, evIndexAddr, TD.agg, evFieldAddr, ty3, ty22, ty23, ty68, ty70, fn38, c_EcStill, EcStill_ans]
 refine funext fun i => ?_
 by_cases e1 : i = Mb
 ·subst e1; rw [upd_eq, upd_eq]; rfl
 ·rw [upd_ne _ _ e1, upd_ne _ _ e1, upd_ne _ _ e1]
  by_cases e2 : i = Lb
  ·subst e2; rw [upd_eq, upd_eq]; rfl
  ·rw [upd_ne _ _ e2, upd_ne _ _ e2, upd_ne _ _ e2]
def GAt (h : Hp) (G : AV) (ps : List (List Int)) : Prop := (ps = [] ∧ G = nilS) ∨ ∃ b, G = .slice b 0 ps.length (.toEnd 1) ∧ h.m b = some (.cells (ps.map irow) 23 true)
def RowsAt (h : Hp) (v : AV) (ps : List (List Int)) : Prop := v = .isl (ps.map irow) 1 0 ps.length ∨ (v = nilS ∧ ps = []) ∨ ∃ b c x rs, v = .slice b 0 ps.length c ∧ CapOk c ps.length ∧ h.m b = some (.cells rs 23 x) ∧ rs.length = ps.length ∧ ∀ (i : Nat) (p : List Int), ps[i]? = some p → ∃ r, rs[i]? = some r ∧ RowAt h r p
theorem RowAt.mono {h h' : Hp} {r : AV} {p : List Int} (k : RowAt h r p) (hs : ∀ i, h.m i ≠ none → h'.m i = h.m i) : RowAt h' r p := by
 rcases k with rfl | ⟨rfl, rfl⟩ | ⟨b, c, x, rfl, hc, hb⟩
 ·exact .inl rfl
 ·exact .inr (.inl ⟨rfl, rfl⟩)
 ·exact .inr (.inr ⟨b, c, x, rfl, hc, by rw [hs b (by rw [hb]; simp)]; exact hb⟩)
theorem RowsAt.mono {h h' : Hp} {v : AV} {ps : List (List Int)} (k : RowsAt h v ps) (hs : ∀ i, h.m i ≠ none → h'.m i = h.m i) : RowsAt h' v ps := by
 rcases k with rfl | ⟨rfl, rfl⟩ | ⟨b, c, x, rs, rfl, hc, hb, hl, hr⟩
 ·exact .inl rfl
 ·exact .inr (.inl ⟨rfl, rfl⟩)
 ·refine .inr (.inr ⟨b, c, x, rs, rfl, hc, by rw [hs b (by rw [hb]; simp)]; exact hb, hl, fun i p hp => ?_⟩)
  obtain ⟨r, h1, h2⟩ := hr i p hp
  exact ⟨r, h1, h2.mono hs⟩
theorem rows_get {ps : List (List Int)} {i : Nat} {p : List Int} (h : ps[i]? = some p) : (ps.map irow)[i]? = some (irow p) := by rw [List.getElem?_map, h]; rfl
theorem clean_irows : ∀ l : List (List Int), allClean (l.map irow) = true
 | [] => rfl
 | p :: l => by
  have := clean_irows l
  simp only [List.map_cons, allClean, irow, clean_isl1, Bool.true_and] at this ⊢
  exact this
structure Part (n : Nat) (ord : List Nat) (C base : Nat) (G : AV) (ps : List (List Int)) (j K : Nat) (L M : Nat → Nat) (h0 h : Hp) : Prop where
 chain : h.m C = some (.cells [pc n, G, gv (if j = 0 then none else some K) j] 73 false)
 links : 0 < j → base ≤ K ∧ h.m K = some (.cells ((List.range j).map fun k => .ptr (L k) 0) 67 true)
 link : ∀ k, k < j → h.m (L k) = some (.cells [pc (ap ord k), nilS, .map (M k)] 70 false)
 map : ∀ k, k < j → h.m (M k) = some (.map [((ap ord k : Nat), pl (List.range n))])
 mdis : ∀ a b, a < j → b < j → M a = M b → a = b
 ldis : ∀ a b, a < j → b < j → L a = L b → a = b
 low : ∀ k, k < j → base ≤ L k ∧ base ≤ M k
 g : GAt h G ps
 gb : ∀ b o l c, G = .slice b o l c → base ≤ b
 old : ∀ i, i < base → h.m i = h0.m i
 born : ∀ i, h.next ≤ i → h.m i = none
 bC : base ≤ C
theorem Part.more {n : Nat} {ord : List Nat} {C base : Nat} {G : AV} {ps : List (List Int)} {j K : Nat} {L M : Nat → Nat} {h0 h : Hp} (s : Part n ord C base G ps j K L M h0 h) {h' : Hp} {K' L' M' : Nat}
    (hC : h'.m C = some (.cells [pc n, G, .slice K' 0 (j + 1) (.toEnd 1)] 73 false)) (hK : h'.m K' = some (.cells ((List.range j).map (fun k => .ptr (L k) 0) ++ [.ptr L' 0]) 67 true))
    (hL : h'.m L' = some (.cells [pc (ap ord j), nilS, .map M'] 70 false)) (hM : h'.m M' = some (.map [((ap ord j : Nat), pl (List.range n))])) (bK : h.next ≤ K') (bL : h.next ≤ L') (bM : h.next ≤ M') (bb : base ≤ h.next)
    (hr : ∀ i, i < h.next → i ≠ C → (0 < j → i ≠ K) → h'.m i = h.m i) (hb : ∀ i, h'.next ≤ i → h'.m i = none) : Part n ord C base G ps (j + 1) K' (fun k => if k = j then L' else L k) (fun k => if k = j then M' else M k) h0 h' := by
 have lt : ∀ {i : Nat} {o : AO}, h.m i = some o → i < h.next := fun h => lt_next s.born h
 have kl : ∀ {k : Nat}, k < j → h'.m (L k) = h.m (L k) := fun hk => hr _ (lt (s.link _ hk)) (neT (s.link _ hk) s.chain (by decide)) fun h0 => neT (s.link _ hk) (s.links h0).2 (by decide)
 have km : ∀ {k : Nat}, k < j → h'.m (M k) = h.m (M k) := fun hk => hr _ (lt (s.map _ hk)) (fun c => by have := s.map _ hk; rw [c, s.chain] at this; cases this) fun h0 c => by have := s.map _ hk; rw [c, (s.links h0).2] at this; cases this
 refine ⟨?_, fun _ => ⟨by omega, ?_⟩, fun k hk => ?_, fun k hk => ?_, fun a b ha hb2 e => ?_, fun a b ha hb2 e => ?_, fun k hk => ?_, ?_, s.gb, fun i hi => ?_, hb, s.bC⟩
 ·rw [if_neg (by omega)]; exact hC
 ·rw [hK, List.range_succ, List.map_append]
  congr 2
  refine congr (congrArg _ (List.map_congr_left fun k hk => ?_)) ?_
  ·rw [if_neg (by have := List.mem_range.1 hk; omega)]
  ·simp
 ·by_cases e : k = j
  ·subst e; simp only [if_true]; exact hL
  ·simp only [if_neg e]; rw [kl (by omega)]; exact s.link k (by omega)
 ·by_cases e : k = j
  ·subst e; simp only [if_true]; exact hM
  ·simp only [if_neg e]; rw [km (by omega)]; exact s.map k (by omega)
 ·have lm : ∀ k, k < j → M k < h.next := fun k hk => lt (s.map k hk)
  by_cases e1 : a = j <;> by_cases e2 : b = j <;> simp only [e1, e2, if_true, if_false] at e
  ·omega
  ·have := lm b (by omega); omega
  ·have := lm a (by omega); omega
  ·exact s.mdis a b (by omega) (by omega) e
 ·have lm : ∀ k, k < j → L k < h.next := fun k hk => lt (s.link k hk)
  by_cases e1 : a = j <;> by_cases e2 : b = j <;> simp only [e1, e2, if_true, if_false] at e
  ·omega
  ·have := lm b (by omega); omega
  ·have := lm a (by omega); omega
  ·exact s.ldis a b (by omega) (by omega) e
 ·by_cases e : k = j
  ·subst e; simp only [if_true]; omega
  ·simp only [if_neg e]; exact s.low k (by omega)
 ·rcases s.g with ⟨h1, h2⟩ | ⟨b, h1, h2⟩
  ·exact .inl ⟨h1, h2⟩
  ·exact .inr ⟨b, h1, by rw [hr _ (lt h2) (neT h2 s.chain (by decide)) fun h0 => neT h2 (s.links h0).2 (by decide)]; exact h2⟩
 ·rw [hr i (by omega) (by have := s.bC; omega) fun h0 => by have := (s.links h0).1; omega]; exact s.old i hi
theorem Part.stands {n : Nat} {ord : List Nat} {C base : Nat} {G : AV} {ps : List (List Int)} {K : Nat} {L M : Nat → Nat} {h0 h : Hp} (s : Part n ord C base G ps n K L M h0 h) (ho : Is n ord) : Stands ⟨C, K, L, M⟩ (fun k => ap ord k) G (fun _ => none) (begin_ n fun k => ap ord k) h :=
 ⟨s.chain, fun hn => (s.links hn).2, s.link, s.map, fun _ _ => rfl, fun k hk => ⟨by simp [begin_], fun x hx => by
  simp only [begin_, List.map_cons, List.map_nil, List.mem_singleton] at hx
  subst hx; exact ho.lt k hk⟩, s.mdis, s.ldis, fun i j b _ _ h => (by cases h), s.born⟩
theorem rows_len {h : Hp} {v : AV} {ps : List (List Int)} (k : RowsAt h v ps) : evLen tab 22 v = some (.flat (.int .i64 (ps.length : Int))) := by
 rcases k with rfl | ⟨rfl, rfl⟩ | ⟨b, c, x, rs, rfl, _⟩
 ·simp only [len_isl, ty22]
 ·simp only [nilS, len_nil, ty22]; rfl
 ·simp only [len_slice, ty22]
theorem row_len {h : Hp} {v : AV} {p : List Int} (k : RowAt h v p) : evLen tab 23 v = some (.flat (.int .i64 (p.length : Int))) := by
 rcases k with rfl | ⟨rfl, rfl⟩ | ⟨b, c, x, rfl, _⟩
 ·simp only [irow, len_isl, ty23]
 ·simp only [len_nil, ty23]; rfl
 ·simp only [len_slice, ty23]
theorem group_sem {n : Nat} (hn : n ≤ 64) (ps : List (List Int)) (qs : List (Pm n)) (hqs : ps = qs.map fun q => q.l.map fun (x : Nat) => (x : Int)) (hps : ps.length ≤ 1000) (ord : List Nat) (ho : Is n ord) (h : Hp) (born : ∀ i, h.next ≤ i → h.m i = none) (gv0 ov : AV) (hg : RowsAt h gv0 ps) (hov : RowAt h ov (ord.map fun (x : Nat) => (x : Int))) (f : Nat) (st : St n) (hst : 0 < n → addAll false (fun k => ap ord k) f qs (begin_ n fun k => ap ord k) = some st) (hlen : 0 < n → ∀ j, j < n → (st.S j).length ≤ 1000) :
    ∃ e h', SemCall Try.prog 37 [pc n, gv0, ov] h e h' ∧ Hp.Le h h' ∧ ∃ (y : Lay) (G : AV) (gb : Nat → Option Nat), e = .ret (.ptr y.C 0) ∧ h.next ≤ y.C ∧ (0 < n → Stands y (fun k => ap ord k) G gb st h') ∧ (n = 0 → h'.m y.C = some (.cells [pc n, G, nilS] 73 false)) ∧ GAt h' G ps ∧ (∀ i, i < h.next → h'.m i = h.m i) ∧ ∀ i, h'.next ≤ i → h'.m i = none := by
 refine sem_heap tables.ok Try.func37 rfl rfl rfl rfl ?_
 have B := base0
 unfold Try.f37 bodyOf entry; simp only [Option.getD_some, List.length_cons, List.length_nil, Nat.reduceAdd, Nat.reduceSub]
 have hl0 := rows_len hg
 obtain ⟨m, hm⟩ : ∃ m, m = ps.length := ⟨_, rfl⟩
 rw [← hm] at hl0
 repeat (first
  | refine wp_seqQ ?_ | refine wp_blockQ ?_ | refine wp_scopeQ ?_
  | ((first | refine wp_skipQ ?_ | refine wp_labelQ ?_ | refine wp_exitQ ?_ | refine wp_retQ ?_); simp only [kQ, Nat.reduceEqDiff, reduceIte])
  | ((first | refine wp_dreg B (id := 5) [0, 0, 2, 6, 14, 0, 32, 96, 254, 511, 1023, 2047] (by kernel_rfl) ?_ | refine wp_reg B ?_); simp (disch := omega) only [kW, kG, Nat.reduceEqDiff, reduceIte, Nat.reduceLT, Nat.reduceLeDiff, Nat.reduceAdd, Nat.reduceSub, Nat.reduceMul, Nat.reducePow, Nat.reduceDiv, Nat.reduceMod, evIndexAddr, TD.agg, evFieldAddr, ty3, ty22, ty23, ty27, ty65, ty67, ty68, ty70, ty73, fn51, fn63, fn64, pc, hl0])
  | refine wp_condT rfl ?_ | refine wp_condF rfl ?_)
 refine wp_loopQ (fun f' z => ∃ (i : Nat) (tm : Nat → Option AV) (hh : Hp) (G : AV), z = ⟨tm, 76, hh, []⟩ ∧ f' = m - i ∧ i ≤ m ∧ tm 0 = some (pc n) ∧ tm 2 = some ov ∧ tm 7 = some (.ptr h.next 0) ∧ tm 18 = some gv0 ∧ tm 19 = some (.flat (.int .i64 (m : Int))) ∧ tm 20 = some (.flat (.int .i64 (i : Int))) ∧
  hh.m h.next = some (.cells [pc n, G, nilS] 73 false) ∧ GAt hh G (ps.take i) ∧ (∀ j, j < h.next → hh.m j = h.m j) ∧ (∀ j, hh.next ≤ j → hh.m j = none) ∧ h.next < hh.next ∧ ∀ b o l c, G = .slice b o l c → h.next ≤ b) m ?_ ?_
 ·refine ⟨0, _, _, nilS, rfl, rfl, Nat.zero_le _, rfl, rfl, rfl, rfl, rfl, rfl, ?_, .inl ⟨rfl, rfl⟩, fun j hj => ?_, fun j hj => ?_, ?_, fun b o l c e => by cases e⟩
  ·dsimp only; rw [upd_eq]; rfl
  ·dsimp only; rw [upd_ne _ _ (by omega)]
  ·dsimp only at hj ⊢; rw [upd_ne _ _ (by omega)]; exact born j (by omega)
  ·dsimp only; omega
 ·rintro f' z ⟨i, tm, hh, G, rfl, rfl, hi, t0, t2, t7, t18, t19, t20, hC, hG, hold, hborn, hnx, hGb⟩
  repeat (first
   | refine wp_seqQ ?_ | refine wp_blockQ ?_ | refine wp_scopeQ ?_
   | ((first | refine wp_skipQ ?_ | refine wp_labelQ ?_ | refine wp_exitQ ?_ | refine wp_retQ ?_); simp only [kQ, Nat.reduceEqDiff, reduceIte])
   | ((first | refine wp_dreg B (id := 5) [0, 0, 2, 6, 14, 0, 32, 96, 254, 511, 1023, 2047] (by kernel_rfl) ?_ | refine wp_reg B ?_); simp (disch := omega) only [kW, kG, Nat.reduceEqDiff, reduceIte, Nat.reduceLT, Nat.reduceLeDiff, Nat.reduceAdd, Nat.reduceSub, Nat.reduceMul, Nat.reducePow, Nat.reduceDiv, Nat.reduceMod, evIndexAddr, TD.agg, evFieldAddr, ty3, ty22, ty23, ty27, ty65, ty67, ty68, ty70, ty73, fn51, fn63, fn64, t0, t2, t7, t18, t19, t20])
   | refine wp_condT rfl ?_ | refine wp_condF rfl ?_)
  refine wp_if rfl (fun ilt => ?_) (fun ige => ?_)
  ·obtain ⟨p, hp⟩ : ∃ p, ps[i]? = some p := ⟨_, List.getElem?_eq_getElem (by omega)⟩
   have hg1 := hg.mono (h' := hh) fun j hj => hold j (Decidable.byContradiction fun c => hj (born j (by omega)))
   repeat (first
    | refine wp_seqQ ?_ | refine wp_blockQ ?_ | refine wp_scopeQ ?_
    | ((first | refine wp_skipQ ?_ | refine wp_labelQ ?_ | refine wp_exitQ ?_ | refine wp_retQ ?_); simp only [kQ, Nat.reduceEqDiff, reduceIte])
    | ((fail_if_success refine wp_reg (id := 4) B ?_); (first | refine wp_dreg B (id := 5) [0, 0, 2, 6, 14, 0, 32, 96, 254, 511, 1023, 2047] (by kernel_rfl) ?_ | refine wp_reg B ?_); simp (disch := omega) only [kW, kG, Nat.reduceEqDiff, reduceIte, Nat.reduceLT, Nat.reduceLeDiff, Nat.reduceAdd, Nat.reduceSub, Nat.reduceMul, Nat.reducePow, Nat.reduceDiv, Nat.reduceMod, evIndexAddr, TD.agg, evFieldAddr, ty3, ty22, ty23, ty27, ty65, ty67, ty68, ty70, ty73, fn51, fn63, fn64, t0, t2, t7, t18, t19, t20])
    | refine wp_condT rfl ?_ | refine wp_condF rfl ?_)
   refine WP.mono (Q := fun e s' => e = .normal ∧ ∃ (tm : Nat → Option AV) (r : AV), s' = ⟨tm, 76, hh, []⟩ ∧ tm 0 = some (pc n) ∧ tm 2 = some ov ∧ tm 7 = some (.ptr h.next 0) ∧ tm 18 = some gv0 ∧ tm 19 = some (.flat (.int .i64 (m : Int))) ∧ tm 20 = some (.flat (.int .i64 (i : Int))) ∧ tm 9 = some r ∧ RowAt hh r p) ?_ ?_
   ·rcases hg1 with e | ⟨_, e⟩ | ⟨b, cp, x, rs, e, hcp, hb, hl, hr⟩
    ·rw [e, ← hm] at t18
     have hpi := rows_get hp
     repeat (first
      | refine wp_seqQ ?_ | refine wp_blockQ ?_ | refine wp_scopeQ ?_
      | ((first | refine wp_skipQ ?_ | refine wp_labelQ ?_ | refine wp_exitQ ?_ | refine wp_retQ ?_); simp only [kQ, Nat.reduceEqDiff, reduceIte])
      | ((first | refine wp_dreg B (id := 5) [0, 0, 2, 6, 14, 0, 32, 96, 254, 511, 1023, 2047] (by kernel_rfl) ?_ | refine wp_reg B ?_); simp (disch := omega) only [kW, kG, Nat.reduceEqDiff, reduceIte, Nat.reduceLT, Nat.reduceLeDiff, Nat.reduceAdd, Nat.reduceSub, Nat.reduceMul, Nat.reducePow, Nat.reduceDiv, Nat.reduceMod, evIndexAddr, TD.agg, evFieldAddr, ty3, ty22, ty23, ty27, ty65, ty67, ty68, ty70, ty73, fn51, fn63, fn64, t0, t2, t7, t18, t19, t20, hpi])
      | refine wp_condT rfl ?_ | refine wp_condF rfl ?_)
     exact ⟨_, _, rfl, t0, t2, t7, by rw [e, ← hm]; exact t18, t19, t20, rfl, .inl rfl⟩
    ·rw [e] at hm; simp at hm; omega
    ·obtain ⟨r, h1, h2⟩ := hr i p hp
     rw [e, ← hm] at t18
     rw [← hm] at hl
     repeat (first
      | refine wp_seqQ ?_ | refine wp_blockQ ?_ | refine wp_scopeQ ?_
      | ((first | refine wp_skipQ ?_ | refine wp_labelQ ?_ | refine wp_exitQ ?_ | refine wp_retQ ?_); simp only [kQ, Nat.reduceEqDiff, reduceIte])
      | ((first | refine wp_dreg B (id := 5) [0, 0, 2, 6, 14, 0, 32, 96, 254, 511, 1023, 2047] (by kernel_rfl) ?_ | refine wp_reg B ?_); simp (disch := omega) only [kW, kG, Nat.reduceEqDiff, reduceIte, Nat.reduceLT, Nat.reduceLeDiff, Nat.reduceAdd, Nat.reduceSub, Nat.reduceMul, Nat.reducePow, Nat.reduceDiv, Nat.reduceMod, evIndexAddr, TD.agg, evFieldAddr, ty3, ty22, ty23, ty27, ty65, ty67, ty68, ty70, ty73, fn51, fn63, fn64, t0, t2, t7, t18, t19, t20, hb, h1, hl])
      | refine wp_condT rfl ?_ | refine wp_condF rfl ?_)
     exact ⟨_, _, rfl, t0, t2, t7, by rw [e, ← hm]; exact t18, t19, t20, rfl, h2⟩
   ·rintro e s' ⟨rfl, tm, r, rfl, t0, t2, t7, t18, t19, t20, t9, hr⟩
    simp only [thenQ_normal]
    have hpl : p.length = n := by
     rw [hqs, List.getElem?_map] at hp
     obtain ⟨q, _, rfl⟩ := Option.map_eq_some_iff.1 hp
     rw [List.length_map, q.ok.len]
    have sc := clone_at (h := ⟨hh.next, hh.next, hh.m⟩) (hr.mono fun _ _ => rfl) (by omega)
    obtain ⟨call, B, c1, _⟩ := call_at tables.ok mixed [] sc (Hp.Le.refl _)
    have lp : irow p = .isl (p.map ic) 1 0 n := by rw [← hpl]; rfl
    rw [lp] at c1
    have htk : ps.take (i + 1) = ps.take i ++ [p] := by rw [List.take_add_one, hp]; rfl
    rcases hG with ⟨e0, rfl⟩ | ⟨b, rfl, hb⟩
    ·have hi0 : i = 0 := by
       have := congrArg List.length e0
       rw [List.length_take, Nat.min_eq_left (by omega)] at this
       exact this
     subst hi0
     simp only [nilS] at hC
     repeat (first
      | refine wp_seqQ ?_ | refine wp_blockQ ?_ | refine wp_scopeQ ?_
      | ((first | refine wp_skipQ ?_ | refine wp_labelQ ?_ | refine wp_exitQ ?_ | refine wp_retQ ?_); simp only [kQ, Nat.reduceEqDiff, reduceIte])
      | ((first | refine wp_dreg B (id := 5) [0, 0, 2, 6, 14, 0, 32, 96, 254, 511, 1023, 2047] (by kernel_rfl) ?_ | refine wp_reg B ?_); simp (disch := omega) only [kW, kG, Nat.reduceEqDiff, reduceIte, Nat.reduceLT, Nat.reduceLeDiff, Nat.reduceAdd, Nat.reduceSub, Nat.reduceMul, Nat.reducePow, Nat.reduceDiv, Nat.reduceMod, evIndexAddr, TD.agg, evFieldAddr, ty3, ty22, ty23, ty27, ty65, ty67, ty68, ty70, ty73, fn51, fn63, fn64, t0, t2, t7, t18, t19, t20, t9, hC, c1, cleanN])
      | refine wp_condT rfl ?_ | refine wp_condF rfl ?_)
     refine ⟨_, ?_, 1, _, _, .slice (hh.next + 1) 0 1 (.toEnd 1), rfl, rfl, by omega, t0, t2, t7, t18, t19, rfl, ?_, ?_, fun j hj => ?_, fun j hj => ?_, ?_, fun b o l c e => by cases e; omega⟩
     ·omega
     ·dsimp only; rw [upd_eq]; rfl
     ·refine .inr ⟨hh.next + 1, by rw [List.length_take, Nat.min_eq_left (by omega)], ?_⟩
      dsimp only
      rw [upd_ne _ _ (by omega), upd_eq, htk, List.map_append, e0, ← lp]; rfl
     ·dsimp only; rw [upd_ne _ _ (by omega), upd_ne _ _ (by omega), upd_ne _ _ (by omega)]; exact hold j hj
     ·dsimp only at hj ⊢; rw [upd_ne _ _ (by omega), upd_ne _ _ (by omega), upd_ne _ _ (by omega)]; exact hborn j (by omega)
     ·dsimp only; omega
    ·have hbC : b ≠ h.next := neT hb hC (by decide)
     have lb := lt_next hborn hb
     have hbo : h.next ≤ b := hGb _ _ _ _ rfl
     have hll : ((ps.take i).map irow).length = i := by rw [List.length_map, List.length_take, Nat.min_eq_left (by omega)]
     rw [List.length_take, Nat.min_eq_left (show i ≤ ps.length by omega)] at hC
     repeat (first
      | refine wp_seqQ ?_ | refine wp_blockQ ?_ | refine wp_scopeQ ?_
      | ((first | refine wp_skipQ ?_ | refine wp_labelQ ?_ | refine wp_exitQ ?_ | refine wp_retQ ?_); simp only [kQ, Nat.reduceEqDiff, reduceIte])
      | ((first | refine wp_dreg B (id := 5) [0, 0, 2, 6, 14, 0, 32, 96, 254, 511, 1023, 2047] (by kernel_rfl) ?_ | refine wp_reg B ?_); simp (disch := omega) only [kW, kG, Nat.reduceEqDiff, reduceIte, Nat.reduceLT, Nat.reduceLeDiff, Nat.reduceAdd, Nat.reduceSub, Nat.reduceMul, Nat.reducePow, Nat.reduceDiv, Nat.reduceMod, evIndexAddr, TD.agg, evFieldAddr, ty3, ty22, ty23, ty27, ty65, ty67, ty68, ty70, ty73, fn51, fn63, fn64, t0, t2, t7, t18, t19, t20, t9, hC, c1, cleanN, hb, hll, clean_irows, hbC, Ne.symm hbC])
      | refine wp_condT rfl ?_ | refine wp_condF rfl ?_)
     refine ⟨_, ?_, i + 1, _, _, .slice (hh.next + 1) 0 (i + 1) (.toEnd 1), rfl, rfl, by omega, t0, t2, t7, t18, t19, rfl, ?_, ?_, fun j hj => ?_, fun j hj => ?_, ?_, fun b o l c e => by cases e; omega⟩
     ·omega
     ·dsimp only; rw [upd_eq]
     ·refine .inr ⟨hh.next + 1, by rw [List.length_take, Nat.min_eq_left (by omega)], ?_⟩
      dsimp only
      rw [upd_ne _ _ (by omega), upd_eq, htk, List.map_append, ← lp]; rfl
     ·dsimp only; rw [upd_ne _ _ (by omega), upd_ne _ _ (by omega), upd_ne _ _ (by omega), upd_ne _ _ (by omega)]; exact hold j hj
     ·dsimp only at hj ⊢; rw [upd_ne _ _ (by omega), upd_ne _ _ (by omega), upd_ne _ _ (by omega), upd_ne _ _ (by omega)]; exact hborn j (by omega)
     ·dsimp only; omega
  ·have e : m = i := by omega
   subst e
   rw [hm, List.take_of_length_le (Nat.le_refl _)] at hG
   have hov1 := hov.mono (h' := hh) fun j hj => hold j (Decidable.byContradiction fun c => hj (born j (by omega)))
   have hl1 := row_len hov1
   rw [List.length_map, ho.len] at hl1
   have P0 : Part n ord h.next h.next G ps 0 0 (fun _ => 0) (fun _ => 0) h hh := ⟨hC, fun h => absurd h (Nat.lt_irrefl 0), fun k hk => absurd hk (Nat.not_lt_zero k), fun k hk => absurd hk (Nat.not_lt_zero k), fun a b hk => absurd hk (Nat.not_lt_zero a), fun a b hk => absurd hk (Nat.not_lt_zero a), fun k hk => absurd hk (Nat.not_lt_zero k), hG, hGb, hold, hborn, Nat.le_refl _⟩
   clear hC hG hold hborn hov1
   repeat (first
    | refine wp_seqQ ?_ | refine wp_blockQ ?_ | refine wp_scopeQ ?_
    | ((first | refine wp_skipQ ?_ | refine wp_labelQ ?_ | refine wp_exitQ ?_ | refine wp_retQ ?_); simp only [kQ, Nat.reduceEqDiff, reduceIte])
    | ((first | refine wp_dreg B (id := 5) [0, 0, 2, 6, 14, 0, 32, 96, 254, 511, 1023, 2047] (by kernel_rfl) ?_ | refine wp_reg B ?_); simp (disch := omega) only [kW, kG, Nat.reduceEqDiff, reduceIte, Nat.reduceLT, Nat.reduceLeDiff, Nat.reduceAdd, Nat.reduceSub, Nat.reduceMul, Nat.reducePow, Nat.reduceDiv, Nat.reduceMod, evIndexAddr, TD.agg, evFieldAddr, ty3, ty22, ty23, ty27, ty65, ty67, ty68, ty70, ty73, fn51, fn63, fn64, t0, t2, t7, hl1])
    | refine wp_condT rfl ?_ | refine wp_condF rfl ?_)
   refine wp_loopQ (fun f' z => ∃ (j : Nat) (tm : Nat → Option AV) (hk : Hp) (K : Nat) (L M : Nat → Nat), z = ⟨tm, 76, hk, []⟩ ∧ f' = n - j ∧ j ≤ n ∧ tm 0 = some (pc n) ∧ tm 7 = some (.ptr h.next 0) ∧ tm 36 = some ov ∧ tm 37 = some (.flat (.int .i64 (n : Int))) ∧ tm 38 = some (.flat (.int .i64 (j : Int))) ∧ Part n ord h.next h.next G ps j K L M h hk ∧ h.next < hk.next) n ?_ ?_
   ·exact ⟨0, _, _, 0, _, _, rfl, rfl, Nat.zero_le _, t0, t7, rfl, rfl, rfl, P0, hnx⟩
   ·clear t0 t2 t7 t18 t19 t20 P0 hGb tm hh hnx
    rintro f' z ⟨j, tm, hk, K, L, M, rfl, rfl, hj, t0, t7, t36, t37, t38, Pj, hnx⟩
    repeat (first
     | refine wp_seqQ ?_ | refine wp_blockQ ?_ | refine wp_scopeQ ?_
     | ((first | refine wp_skipQ ?_ | refine wp_labelQ ?_ | refine wp_exitQ ?_ | refine wp_retQ ?_); simp only [kQ, Nat.reduceEqDiff, reduceIte])
     | ((first | refine wp_dreg B (id := 5) [0, 0, 2, 6, 14, 0, 32, 96, 254, 511, 1023, 2047] (by kernel_rfl) ?_ | refine wp_reg B ?_); simp (disch := omega) only [kW, kG, Nat.reduceEqDiff, reduceIte, Nat.reduceLT, Nat.reduceLeDiff, Nat.reduceAdd, Nat.reduceSub, Nat.reduceMul, Nat.reducePow, Nat.reduceDiv, Nat.reduceMod, evIndexAddr, TD.agg, evFieldAddr, ty3, ty22, ty23, ty27, ty65, ty67, ty68, ty70, ty73, fn51, fn63, fn64, t0, t7, t36, t37, t38])
     | refine wp_condT rfl ?_ | refine wp_condF rfl ?_)
    refine wp_if rfl (fun jlt => ?_) (fun jge => ?_)
    ·have hx : ord[j]? = some (ap ord j) := by
       have := ho.len
       rw [ap_get (by omega)]; exact List.getElem?_eq_getElem (by omega)
     have hxi : (ord.map fun (x : Nat) => (x : Int))[j]? = some ((ap ord j : Nat) : Int) := by rw [List.getElem?_map, hx]; rfl
     have hxc := ir_get hxi
     have hov1 := hov.mono (h' := hk) fun i hi => Pj.old i (Decidable.byContradiction fun c => hi (born i (by omega)))
     repeat (first
      | refine wp_seqQ ?_ | refine wp_blockQ ?_ | refine wp_scopeQ ?_
      | ((first | refine wp_skipQ ?_ | refine wp_labelQ ?_ | refine wp_exitQ ?_ | refine wp_retQ ?_); simp only [kQ, Nat.reduceEqDiff, reduceIte])
      | ((fail_if_success refine wp_reg (id := 9) B ?_); (first | refine wp_dreg B (id := 5) [0, 0, 2, 6, 14, 0, 32, 96, 254, 511, 1023, 2047] (by kernel_rfl) ?_ | refine wp_reg B ?_); simp (disch := omega) only [kW, kG, Nat.reduceEqDiff, reduceIte, Nat.reduceLT, Nat.reduceLeDiff, Nat.reduceAdd, Nat.reduceSub, Nat.reduceMul, Nat.reducePow, Nat.reduceDiv, Nat.reduceMod, evIndexAddr, TD.agg, evFieldAddr, ty3, ty22, ty23, ty27, ty65, ty67, ty68, ty70, ty73, fn51, fn63, fn64, t0, t7, t36, t37, t38])
      | refine wp_condT rfl ?_ | refine wp_condF rfl ?_)
     refine WP.mono (Q := fun e s' => e = .normal ∧ ∃ (tm : Nat → Option AV), s' = ⟨tm, 76, hk, []⟩ ∧ tm 0 = some (pc n) ∧ tm 7 = some (.ptr h.next 0) ∧ tm 36 = some ov ∧ tm 37 = some (.flat (.int .i64 (n : Int))) ∧ tm 38 = some (.flat (.int .i64 (j : Int))) ∧ tm 11 = some (pc (ap ord j))) ?_ ?_
     ·have hol := ho.len
      generalize ap ord j = x at *
      rcases hov1 with e | ⟨_, e⟩ | ⟨b, cp, x0, e, hcp, hb⟩
      ·simp only [e, irow, List.length_map, hol] at t36
       repeat (first
        | refine wp_seqQ ?_ | refine wp_blockQ ?_ | refine wp_scopeQ ?_
        | ((first | refine wp_skipQ ?_ | refine wp_labelQ ?_ | refine wp_exitQ ?_ | refine wp_retQ ?_); simp only [kQ, Nat.reduceEqDiff, reduceIte])
        | ((first | refine wp_dreg B (id := 5) [0, 0, 2, 6, 14, 0, 32, 96, 254, 511, 1023, 2047] (by kernel_rfl) ?_ | refine wp_reg B ?_); simp (disch := omega) only [kW, kG, Nat.reduceEqDiff, reduceIte, Nat.reduceLT, Nat.reduceLeDiff, Nat.reduceAdd, Nat.reduceSub, Nat.reduceMul, Nat.reducePow, Nat.reduceDiv, Nat.reduceMod, evIndexAddr, TD.agg, evFieldAddr, ty3, ty22, ty23, ty27, ty65, ty67, ty68, ty70, ty73, fn51, fn63, fn64, t0, t7, t36, t37, t38, hxc])
        | refine wp_condT rfl ?_ | refine wp_condF rfl ?_)
       exact ⟨_, rfl, t0, t7, by simp only [e, irow, List.length_map, hol]; exact t36, t37, t38, rfl⟩
      ·have := congrArg List.length e
       simp only [List.length_map, List.length_nil] at this
       omega
      ·simp only [e, List.length_map, hol] at t36
       have hll : (List.map ic (ord.map fun (x : Nat) => (x : Int))).length = n := by simp [hol]
       repeat (first
        | refine wp_seqQ ?_ | refine wp_blockQ ?_ | refine wp_scopeQ ?_
        | ((first | refine wp_skipQ ?_ | refine wp_labelQ ?_ | refine wp_exitQ ?_ | refine wp_retQ ?_); simp only [kQ, Nat.reduceEqDiff, reduceIte])
        | ((first | refine wp_dreg B (id := 5) [0, 0, 2, 6, 14, 0, 32, 96, 254, 511, 1023, 2047] (by kernel_rfl) ?_ | refine wp_reg B ?_); simp (disch := omega) only [kW, kG, Nat.reduceEqDiff, reduceIte, Nat.reduceLT, Nat.reduceLeDiff, Nat.reduceAdd, Nat.reduceSub, Nat.reduceMul, Nat.reducePow, Nat.reduceDiv, Nat.reduceMod, evIndexAddr, TD.agg, evFieldAddr, ty3, ty22, ty23, ty27, ty65, ty67, ty68, ty70, ty73, fn51, fn63, fn64, t0, t7, t36, t37, t38, hb, hxc, hll])
        | refine wp_condT rfl ?_ | refine wp_condF rfl ?_)
       exact ⟨_, rfl, t0, t7, by simp only [e, List.length_map, hol]; exact t36, t37, t38, rfl⟩
     ·rintro e s' ⟨rfl, tm, rfl, t0, t7, t36, t37, t38, t11⟩
      simp only [thenQ_normal]
      repeat (first
       | refine wp_seqQ ?_ | refine wp_blockQ ?_ | refine wp_scopeQ ?_
       | ((first | refine wp_skipQ ?_ | refine wp_labelQ ?_ | refine wp_exitQ ?_ | refine wp_retQ ?_); simp only [kQ, Nat.reduceEqDiff, reduceIte])
       | ((fail_if_success refine wp_reg (id := 11) B ?_); (first | refine wp_dreg B (id := 5) [0, 0, 2, 6, 14, 0, 32, 96, 254, 511, 1023, 2047] (by kernel_rfl) ?_ | refine wp_reg B ?_); simp (disch := omega) only [kW, kG, Nat.reduceEqDiff, reduceIte, Nat.reduceLT, Nat.reduceLeDiff, Nat.reduceAdd, Nat.reduceSub, Nat.reduceMul, Nat.reducePow, Nat.reduceDiv, Nat.reduceMod, evIndexAddr, TD.agg, evFieldAddr, ty3, ty22, ty23, ty27, ty65, ty67, ty68, ty70, ty73, fn51, fn63, fn64, t0, t7, t36, t37, t38, t11])
       | refine wp_condT rfl ?_ | refine wp_condF rfl ?_)
      dsimp only
      refine WP.tms (fun u => u = 0 ∨ u = 7 ∨ u = 36 ∨ u = 37 ∨ u = 38 ∨ u = 11 ∨ u = 12) fun tm2 e2 => ?_
      have u0 : tm2 0 = some (pc n) := (e2 0 (by simp)).trans t0
      have u7 : tm2 7 = some (.ptr h.next 0) := (e2 7 (by simp)).trans t7
      have u36 : tm2 36 = some ov := (e2 36 (by simp)).trans t36
      have u37 : tm2 37 = some (.flat (.int .i64 (n : Int))) := (e2 37 (by simp)).trans t37
      have u38 : tm2 38 = some (.flat (.int .i64 (j : Int))) := (e2 38 (by simp)).trans t38
      have u11 : tm2 11 = some (pc (ap ord j)) := (e2 11 (by simp)).trans t11
      have u12 : tm2 12 = some (.ptr (hk.next + 1) 0) := (e2 12 (by simp)).trans rfl
      clear e2 t0 t7 t36 t37 t38 t11 tm
      refine WP.name fun hA hhA => ?_
      have nA : hA.next = hk.next + 2 := by rw [hhA]
      have mA : hA.m = upd (upd hk.m hk.next (some (.map []))) (hk.next + 1) (some (.cells [.flat (.int .i64 0), nilS, .map hk.next] 70 false)) := by rw [hhA]; rfl
      clear hhA
      obtain ⟨e, hB, sc, le, rfl, nB, mB⟩ := begun_sem n (ap ord j) (by omega) hA (hk.next + 1) hk.next 0 [] (by rw [mA, upd_eq]) (by rw [mA, upd_ne _ _ (by omega), upd_eq]) (by omega) (by omega)
      rw [mA] at mB
      obtain ⟨call, B, c1, _⟩ := call_at tables.ok mixed [] sc le
      clear sc le
      have bL : hB.m (hk.next + 1) = some (.cells [pc (ap ord j), nilS, .map hk.next] 70 false) := by rw [mB, upd_ne _ _ (by omega), upd_eq]
      have bM : hB.m hk.next = some (.map [((ap ord j : Nat), pl (List.range n))]) := by rw [mB, upd_eq]
      have bold : ∀ i, i ≠ hk.next → i ≠ hk.next + 1 → hB.m i = hk.m i := fun i h1 h2 => by rw [mB, upd_ne _ _ h1, upd_ne _ _ h2, upd_ne _ _ h2, upd_ne _ _ h1]
      clear mA mB
      have lC := lt_next Pj.born Pj.chain
      have bC := Pj.chain
      rw [← bold _ (by omega) (by omega)] at bC
      simp only [pc] at u0 u11 c1
      by_cases j0 : j = 0
      ·subst j0
       simp only [if_true, gv, nilS] at bC
       repeat (first
        | refine wp_seqQ ?_ | refine wp_blockQ ?_ | refine wp_scopeQ ?_
        | ((first | refine wp_skipQ ?_ | refine wp_labelQ ?_ | refine wp_exitQ ?_ | refine wp_retQ ?_); simp only [kQ, Nat.reduceEqDiff, reduceIte])
        | ((first | refine wp_dreg B (id := 5) [0, 0, 2, 6, 14, 0, 32, 96, 254, 511, 1023, 2047] (by kernel_rfl) ?_ | refine wp_reg B ?_); simp (disch := omega) only [kW, kG, Nat.reduceEqDiff, reduceIte, Nat.reduceLT, Nat.reduceLeDiff, Nat.reduceAdd, Nat.reduceSub, Nat.reduceMul, Nat.reducePow, Nat.reduceDiv, Nat.reduceMod, evIndexAddr, TD.agg, evFieldAddr, ty3, ty22, ty23, ty27, ty65, ty67, ty68, ty70, ty73, fn51, fn63, fn64, u0, u7, u36, u37, u38, u11, u12, c1, bC, cleanNP, nB, nA])
        | refine wp_condT rfl ?_ | refine wp_condF rfl ?_)
       refine ⟨_, ?_, 0 + 1, _, _, hk.next + 2 + 1, _, _, rfl, rfl, by omega, u0, u7, u36, u37, rfl, Pj.more (K' := hk.next + 2 + 1) (L' := hk.next + 1) (M' := hk.next) ?_ ?_ ?_ ?_ (by omega) (by omega) (by omega) (by omega) (fun i hi h1 h2 => ?_) (fun i hi => ?_), ?_⟩
       ·omega
       ·dsimp only; rw [upd_eq]
       ·dsimp only; rw [upd_ne _ _ (by omega), upd_eq]; rfl
       ·dsimp only; rw [upd_ne _ _ (by omega), upd_ne _ _ (by omega), upd_ne _ _ (by omega)]; exact bL
       ·dsimp only; rw [upd_ne _ _ (by omega), upd_ne _ _ (by omega), upd_ne _ _ (by omega)]; exact bM
       ·dsimp only; rw [upd_ne _ _ h1, upd_ne _ _ (by omega), upd_ne _ _ (by omega)]; exact bold i (by omega) (by omega)
       ·dsimp only at hi ⊢; rw [upd_ne _ _ (by omega), upd_ne _ _ (by omega), upd_ne _ _ (by omega), bold i (by omega) (by omega)]; exact Pj.born i (by omega)
       ·dsimp only; omega
      ·have bK := (Pj.links (by omega)).2
       have lK := lt_next Pj.born bK
       have nKC : K ≠ h.next := neT bK Pj.chain (by decide)
       rw [← bold _ (by omega) (by omega)] at bK
       rw [if_neg j0] at bC
       simp only [gv] at bC
       have hll : (List.map (fun k => AV.ptr (L k) 0) (List.range j)).length = j := by simp
       repeat (first
        | refine wp_seqQ ?_ | refine wp_blockQ ?_ | refine wp_scopeQ ?_
        | ((first | refine wp_skipQ ?_ | refine wp_labelQ ?_ | refine wp_exitQ ?_ | refine wp_retQ ?_); simp only [kQ, Nat.reduceEqDiff, reduceIte])
        | ((first | refine wp_dreg B (id := 5) [0, 0, 2, 6, 14, 0, 32, 96, 254, 511, 1023, 2047] (by kernel_rfl) ?_ | refine wp_reg B ?_); simp (disch := omega) only [kW, kG, Nat.reduceEqDiff, reduceIte, Nat.reduceLT, Nat.reduceLeDiff, Nat.reduceAdd, Nat.reduceSub, Nat.reduceMul, Nat.reducePow, Nat.reduceDiv, Nat.reduceMod, evIndexAddr, TD.agg, evFieldAddr, ty3, ty22, ty23, ty27, ty65, ty67, ty68, ty70, ty73, fn51, fn63, fn64, u0, u7, u36, u37, u38, u11, u12, c1, bC, cleanNP, nB, nA, bK, nKC, Ne.symm nKC, hll])
        | refine wp_condT rfl ?_ | refine wp_condF rfl ?_)
       refine ⟨_, ?_, j + 1, _, _, hk.next + 2 + 1, _, _, rfl, rfl, by omega, u0, u7, u36, u37, rfl, Pj.more (K' := hk.next + 2 + 1) (L' := hk.next + 1) (M' := hk.next) ?_ ?_ ?_ ?_ (by omega) (by omega) (by omega) (by omega) (fun i hi h1 h2 => ?_) (fun i hi => ?_), ?_⟩
       ·omega
       ·dsimp only; rw [upd_eq]
       ·dsimp only; rw [upd_ne _ _ (by omega), upd_eq]
       ·dsimp only; rw [upd_ne _ _ (by omega), upd_ne _ _ (by omega), upd_ne _ _ (by omega), upd_ne _ _ (by omega)]; exact bL
       ·dsimp only; rw [upd_ne _ _ (by omega), upd_ne _ _ (by omega), upd_ne _ _ (by omega), upd_ne _ _ (by omega)]; exact bM
       ·dsimp only; rw [upd_ne _ _ h1, upd_ne _ _ (by omega), upd_ne _ _ (h2 (by omega)), upd_ne _ _ (by omega)]; exact bold i (by omega) (by omega)
       ·dsimp only at hi ⊢; rw [upd_ne _ _ (by omega), upd_ne _ _ (by omega), upd_ne _ _ (by omega), upd_ne _ _ (by omega), bold i (by omega) (by omega)]; exact Pj.born i (by omega)
       ·dsimp only; omega
    ·have e : n = j := by omega
     subst e
     have S0 := Pj.stands ho
     by_cases hn0 : n = 0
     ·repeat (first
        | refine wp_seqQ ?_ | refine wp_blockQ ?_ | refine wp_scopeQ ?_
        | ((first | refine wp_skipQ ?_ | refine wp_labelQ ?_ | refine wp_exitQ ?_ | refine wp_retQ ?_); simp only [kQ, Nat.reduceEqDiff, reduceIte])
        | ((first | refine wp_dreg B (id := 5) [0, 0, 2, 6, 14, 0, 32, 96, 254, 511, 1023, 2047] (by kernel_rfl) ?_ | refine wp_reg B ?_); simp (disch := omega) only [kW, kG, Nat.reduceEqDiff, reduceIte, Nat.reduceLT, Nat.reduceLeDiff, Nat.reduceAdd, Nat.reduceSub, Nat.reduceMul, Nat.reducePow, Nat.reduceDiv, Nat.reduceMod, evIndexAddr, TD.agg, evFieldAddr, ty3, ty22, ty23, ty27, ty65, ty67, ty68, ty70, ty73, fn51, fn63, fn64, t0, t7, pc])
        | refine wp_condT rfl ?_ | refine wp_condF rfl ?_)
      simp (disch := omega) only [kS, Nat.reduceEqDiff, reduceIte, Nat.reduceLT, Nat.reduceLeDiff, Nat.reduceAdd, Nat.reduceSub, Nat.reduceMul, Nat.reducePow, Nat.reduceDiv, Nat.reduceMod, evIndexAddr, TD.agg, evFieldAddr, ty3, ty22, ty23, ty27, ty65, ty67, ty68, ty70, ty73, fn51, fn63, fn64]
      refine ⟨⟨h.next, K, L, M⟩, G, fun _ => none, rfl, Nat.le_refl _, fun h => by omega, fun _ => ?_, Pj.g, Pj.old, Pj.born⟩
      have := Pj.chain
      rw [if_pos hn0] at this
      exact this
     ·have hpos : 0 < n := by omega
      have hC1 := S0.chain' hpos
      have lC := S0.ltC
      have hlG : evLen tab 22 G = some (.flat (.int .i64 (m : Int))) := by
       rcases Pj.g with ⟨h1, h2⟩ | ⟨b, h1, h2⟩
       ·rw [h2, hm, h1]; simp only [nilS, len_nil, ty22]; rfl
       ·rw [h1, ← hm]; simp only [len_slice, ty22]
      have hql : qs.length = m := by rw [hm, hqs, List.length_map]
      dsimp only at hC1 lC
      repeat (first
       | refine wp_seqQ ?_ | refine wp_blockQ ?_ | refine wp_scopeQ ?_
       | ((first | refine wp_skipQ ?_ | refine wp_labelQ ?_ | refine wp_exitQ ?_ | refine wp_retQ ?_); simp only [kQ, Nat.reduceEqDiff, reduceIte])
       | ((first | refine wp_dreg B (id := 5) [0, 0, 2, 6, 14, 0, 32, 96, 254, 511, 1023, 2047] (by kernel_rfl) ?_ | refine wp_reg B ?_); simp (disch := omega) only [kW, kG, Nat.reduceEqDiff, reduceIte, Nat.reduceLT, Nat.reduceLeDiff, Nat.reduceAdd, Nat.reduceSub, Nat.reduceMul, Nat.reducePow, Nat.reduceDiv, Nat.reduceMod, evIndexAddr, TD.agg, evFieldAddr, ty3, ty22, ty23, ty27, ty65, ty67, ty68, ty70, ty73, fn51, fn63, fn64, t0, t7, hC1, hlG, pc])
       | refine wp_condT rfl ?_ | refine wp_condF rfl ?_)
      have hst := hst hpos
      have hlen := hlen hpos
      refine wp_loopQ (fun f' z => ∃ (i : Nat) (tm : Nat → Option AV) (h5 : Hp) (gb5 : Nat → Option Nat) (st5 : St n), z = ⟨tm, 76, h5, []⟩ ∧ f' = m - i ∧ i ≤ m ∧ tm 7 = some (.ptr h.next 0) ∧ tm 65 = some G ∧ tm 66 = some (.flat (.int .i64 (m : Int))) ∧ tm 67 = some (.flat (.int .i64 (i : Int))) ∧
       Stands ⟨h.next, K, L, M⟩ (fun k => ap ord k) G gb5 st5 h5 ∧ Keep ⟨h.next, K, L, M⟩ n (fun _ => none) hk gb5 h5 ∧ addAll false (fun k => ap ord k) f (qs.drop i) st5 = some st) m ?_ ?_
      ·exact ⟨0, _, _, fun _ => none, _, rfl, rfl, Nat.zero_le _, t7, rfl, rfl, rfl, S0, Keep.refl _ _ _ _, hst⟩
      ·have hgG : ∀ h5 gb5, Keep ⟨h.next, K, L, M⟩ n (fun _ => none) hk gb5 h5 → GAt h5 G ps := fun h5 gb5 kp => by
         rcases Pj.g with ⟨h1, h2⟩ | ⟨b, h1, h2⟩
         ·exact .inl ⟨h1, h2⟩
         ·exact .inr ⟨b, h1, by
            rw [kp.m b (lt_next Pj.born h2) fun j hj => ⟨neT h2 (Pj.link j hj) (by decide), fun c => (by have := Pj.map j hj; dsimp only at c; rw [← c, h2] at this; cases this), fun c => (by cases c)⟩]
            exact h2⟩
       rintro f' z ⟨i, tm, h5, gb5, st5, rfl, rfl, hi, t7, t65, t66, t67, s5, kp5, hl5⟩
       repeat (first
        | refine wp_seqQ ?_ | refine wp_blockQ ?_ | refine wp_scopeQ ?_
        | ((first | refine wp_skipQ ?_ | refine wp_labelQ ?_ | refine wp_exitQ ?_ | refine wp_retQ ?_); simp only [kQ, Nat.reduceEqDiff, reduceIte])
        | ((first | refine wp_dreg B (id := 5) [0, 0, 2, 6, 14, 0, 32, 96, 254, 511, 1023, 2047] (by kernel_rfl) ?_ | refine wp_reg B ?_); simp (disch := omega) only [kW, kG, Nat.reduceEqDiff, reduceIte, Nat.reduceLT, Nat.reduceLeDiff, Nat.reduceAdd, Nat.reduceSub, Nat.reduceMul, Nat.reducePow, Nat.reduceDiv, Nat.reduceMod, evIndexAddr, TD.agg, evFieldAddr, ty3, ty22, ty23, ty27, ty65, ty67, ty68, ty70, ty73, fn51, fn63, fn64, t7, t65, t66, t67])
        | refine wp_condT rfl ?_ | refine wp_condF rfl ?_)
       refine wp_if rfl (fun ilt => ?_) (fun ige => ?_)
       ·obtain ⟨q, hq⟩ : ∃ q, qs[i]? = some q := ⟨_, List.getElem?_eq_getElem (by omega)⟩
        have hd : qs.drop i = q :: qs.drop (i + 1) := by
         rw [List.drop_eq_getElem_cons (by omega)]
         congr 1
         exact (List.getElem?_eq_some_iff.1 hq).2
        rw [hd, addAll] at hl5
        cases hrun : run false (fun k => ap ord k) f true 0 q st5 with
        | none => rw [hrun] at hl5; cases hl5
        | some st6 =>
         rw [hrun] at hl5
         simp only at hl5
         have hgr := addAll_grow false _ f _ _ _ hl5
         obtain ⟨e, h6, sc, le, rfl, gb6, s6, _, kp6⟩ := (both_ok (by omega) (fun k hk => ho.lt k hk) f).1 gb5 st5 h5 s5 0 q st6 hpos hrun fun j hj => Nat.le_trans (hgr.S j) (hlen j hj)
         obtain ⟨call, B, c1, c2⟩ := call_at tables.ok mixed [] sc le
         rcases hgG h5 gb5 kp5 with ⟨h1, h2⟩ | ⟨b, h1, h2⟩
         ·rw [h1] at hm; simp at hm; omega
         ·have hqp : irow (q.l.map fun (x : Nat) => (x : Int)) = pl q.l := by simp only [irow, pl, List.map_map, List.length_map]; rfl
          have hbc : (ps.map irow)[i]? = some (pl q.l) := by rw [hqs, List.map_map, List.getElem?_map, hq]; exact congrArg some hqp
          have hll : (ps.map irow).length = m := by rw [List.length_map, hm]
          rw [h1, ← hm] at t65
          have z0 : ((0 : Nat) : Int) = 0 := rfl
          simp only [pc, z0] at c1
          repeat (first
           | refine wp_seqQ ?_ | refine wp_blockQ ?_ | refine wp_scopeQ ?_
           | ((first | refine wp_skipQ ?_ | refine wp_labelQ ?_ | refine wp_exitQ ?_ | refine wp_retQ ?_); simp only [kQ, Nat.reduceEqDiff, reduceIte])
           | ((first | refine wp_dreg B (id := 5) [0, 0, 2, 6, 14, 0, 32, 96, 254, 511, 1023, 2047] (by kernel_rfl) ?_ | refine wp_reg B ?_); simp (disch := omega) only [kW, kG, Nat.reduceEqDiff, reduceIte, Nat.reduceLT, Nat.reduceLeDiff, Nat.reduceAdd, Nat.reduceSub, Nat.reduceMul, Nat.reducePow, Nat.reduceDiv, Nat.reduceMod, evIndexAddr, TD.agg, evFieldAddr, ty3, ty22, ty23, ty27, ty65, ty67, ty68, ty70, ty73, fn51, fn63, fn64, t7, t65, t66, t67, h2, hbc, hll, c1])
           | refine wp_condT rfl ?_ | refine wp_condF rfl ?_)
          refine ⟨_, ?_, i + 1, _, _, gb6, st6, rfl, rfl, by omega, t7, by rw [h1, ← hm]; exact t65, t66, rfl, s6, kp5.trans kp6, hl5⟩
          omega
       ·obtain rfl : i = m := by omega
        rw [List.drop_eq_nil_of_le (by omega)] at hl5
        simp only [addAll, Option.some.injEq] at hl5
        subst hl5
        repeat (first
         | refine wp_seqQ ?_ | refine wp_blockQ ?_ | refine wp_scopeQ ?_
         | ((first | refine wp_skipQ ?_ | refine wp_labelQ ?_ | refine wp_exitQ ?_ | refine wp_retQ ?_); simp only [kQ, Nat.reduceEqDiff, reduceIte])
         | ((first | refine wp_dreg B (id := 5) [0, 0, 2, 6, 14, 0, 32, 96, 254, 511, 1023, 2047] (by kernel_rfl) ?_ | refine wp_reg B ?_); simp (disch := omega) only [kW, kG, Nat.reduceEqDiff, reduceIte, Nat.reduceLT, Nat.reduceLeDiff, Nat.reduceAdd, Nat.reduceSub, Nat.reduceMul, Nat.reducePow, Nat.reduceDiv, Nat.reduceMod, evIndexAddr, TD.agg, evFieldAddr, ty3, ty22, ty23, ty27, ty65, ty67, ty68, ty70, ty73, fn51, fn63, fn64, t7])
         | refine wp_condT rfl ?_ | refine wp_condF rfl ?_)
        simp (disch := omega) only [kS, Nat.reduceEqDiff, reduceIte, Nat.reduceLT, Nat.reduceLeDiff, Nat.reduceAdd, Nat.reduceSub, Nat.reduceMul, Nat.reducePow, Nat.reduceDiv, Nat.reduceMod, evIndexAddr, TD.agg, evFieldAddr, ty3, ty22, ty23, ty27, ty65, ty67, ty68, ty70, ty73, fn51, fn63, fn64]
        refine ⟨⟨h.next, K, L, M⟩, G, gb5, rfl, Nat.le_refl _, fun _ => s5, fun h => by omega, hgG h5 gb5 kp5, fun j hj => ?_, s5.born⟩
        rw [kp5.m j (by omega) fun a ha => ⟨fun c => by have := (Pj.low a ha).1; dsimp only at c; omega, fun c => by have := (Pj.low a ha).2; dsimp only at c; omega, fun c => by cases c⟩]
        exact Pj.old j hj
end Go.Proofs.Ytkffcclalncgdaa.Iv
end
section
set_option maxHeartbeats 8000000
set_option linter.unusedVariables false
set_option linter.unusedSimpArgs false
set_option maxRecDepth 10000
namespace Go.Proofs.Ytkffcclalncgdaa.Iv
open Go Go.Iv Go.RowKit Pg Ch
def nums {n : Nat} (q : Pm n) : List Int := q.l.map fun (x : Nat) => (x : Int)
theorem nums_len {n : Nat} (q : Pm n) : (nums q).length = n := by unfold nums; rw [List.length_map, q.ok.len]
theorem nums_irow {n : Nat} (q : Pm n) : irow (nums q) = pl q.l := by simp only [irow, pl, nums, List.map_map, List.length_map]; rfl
theorem okTo_pm {n : Nat} {p : List Int} (hl : p.length = n) (k : OkTo n p n) : ∃ q : Pm n, p = nums q := by
 have hz : ∀ x ∈ p, 0 ≤ x := fun x hx => by
  obtain ⟨i, h1, h2⟩ := List.mem_iff_getElem.1 hx
  exact (k i (by omega) x (by rw [List.getElem?_eq_getElem h1, h2])).1
 have hnn : (p.map Int.toNat).map (fun (x : Nat) => (x : Int)) = p := by
  rw [List.map_map]
  conv => rhs; rw [← List.map_id p]
  exact List.map_congr_left fun x hx => by have := hz x hx; simp only [Function.comp, id]; omega
 have hap : ∀ i (h : i < n), ap (p.map Int.toNat) i = (p[i]'(by omega)).toNat := fun i h => by
  rw [ap_get (by rw [List.length_map]; omega)]; simp
 refine ⟨⟨p.map Int.toNat, by rw [List.length_map, hl], fun i hi => ?_, fun i j hi hj e => ?_⟩, hnn.symm⟩
 ·rw [hap i hi]
  have := k i hi _ (List.getElem?_eq_getElem (by omega))
  omega
 ·rw [hap i hi, hap j hj] at e
  have h1 := k i hi _ (List.getElem?_eq_getElem (by omega))
  have h2 := k j hj _ (List.getElem?_eq_getElem (by omega))
  have e : p[i]'(by omega) = p[j]'(by omega) := by omega
  rcases Nat.lt_trichotomy i j with c | c | c
  ·exact absurd (by rw [← e]; exact List.getElem?_eq_getElem (by omega)) (h2.2.2 i c)
  ·exact c
  ·exact absurd (by rw [e]; exact List.getElem?_eq_getElem (by omega)) (h1.2.2 j c)
theorem pm_okTo {n : Nat} (q : Pm n) : OkTo n (nums q) n := fun j hj x hx => by
 have hq := q.ok.len
 have hx' : q.l[j]? = some (ap q.l j) := by rw [ap_get (by omega)]; exact List.getElem?_eq_getElem (by omega)
 unfold nums at hx ⊢
 rw [List.getElem?_map, hx'] at hx
 simp only [Option.map_some, Option.some.injEq] at hx
 subst hx
 have := q.ok.lt j hj
 refine ⟨by omega, by omega, fun k hk c => ?_⟩
 rw [List.getElem?_map, show q.l[k]? = some (ap q.l k) by rw [ap_get (by omega)]; exact List.getElem?_eq_getElem (by omega)] at c
 simp only [Option.map_some, Option.some.injEq] at c
 have := q.ok.inj k j (by omega) hj (by omega)
 omega
theorem check_pm {n : Nat} (hn : n ≤ 64) (q : Pm n) : checkP (nums q) = 0 := by
 unfold checkP
 rw [nums_len, if_neg (by omega), permB_true (nums_len q) (pm_okTo q), if_pos rfl]
theorem check_ok {n : Nat} {p : List Int} (hl : p.length = n) (h : checkP p = 0) : ∃ q : Pm n, p = nums q := by
 unfold checkP at h
 split at h
 ·omega
 ·split at h
  ·rename_i c
   have c : p.length = p.length ∧ OkTo p.length p p.length := by
    apply Classical.byContradiction
    intro h
    rw [permB_false h] at c; cases c
   rw [hl] at c
   exact okTo_pm hl c.2
  ·omega
def OkRow (n : Nat) (p : List Int) : Prop := p.length = n ∧ checkP p = 0
theorem all_pm {n : Nat} : ∀ ps : List (List Int), (∀ p ∈ ps, OkRow n p) → ∃ qs : List (Pm n), ps = qs.map nums
 | [], _ => ⟨[], rfl⟩
 | p :: ps, h => by
  obtain ⟨qs, rfl⟩ := all_pm ps fun p hp => h p (List.mem_cons_of_mem _ hp)
  obtain ⟨q, rfl⟩ := check_ok (h p (by simp)).1 (h p (by simp)).2
  exact ⟨q :: qs, rfl⟩
def IsChain {n : Nat} (ord : List Nat) (gens : List (Pm n)) (C : Nat) (h : Hp) : Prop := ∃ (y : Lay) (G : AV) (gb : Nat → Option Nat) (st : St n), y.C = C ∧ (0 < n → Stands y (fun k => ap ord k) G gb st h ∧ Of (fun k => ap ord k) gens st) ∧ (n = 0 → h.m C = some (.cells [pc n, G, nilS] 73 false)) ∧ GAt h G (gens.map nums)
theorem is_range (n : Nat) : Is n (List.range n) := (Pm.one n).ok
theorem group_chain {n : Nat} (hn : n ≤ 64) (qs : List (Pm n)) (hqs : qs.length ≤ 1000) (ord : List Nat) (ho : Is n ord) (h : Hp) (born : ∀ i, h.next ≤ i → h.m i = none) (gv0 ov : AV) (hg : RowsAt h gv0 (qs.map nums)) (hov : RowAt h ov (ord.map fun (x : Nat) => (x : Int))) :
    ∃ e h', SemCall Try.prog 37 [pc n, gv0, ov] h e h' ∧ Hp.Le h h' ∧ ∃ C, e = .ret (.ptr C 0) ∧ h.next ≤ C ∧ IsChain ord qs C h' ∧ (∀ i, i < h.next → h'.m i = h.m i) ∧ ∀ i, h'.next ≤ i → h'.m i = none := by
 have key : ∃ (f : Nat) (st : St n), 0 < n → addAll false (fun k => ap ord k) f qs (begin_ n fun k => ap ord k) = some st ∧ Of (fun k => ap ord k) qs st := by
  rcases Nat.eq_zero_or_pos n with h0 | h0
  ·exact ⟨0, begin_ n fun _ => 0, fun h => by omega⟩
  ·obtain ⟨f, st, h1, h2⟩ := group_ok (β := fun k => ap ord k) (fun k hk => ho.lt k hk) (fun j k hj hk e => ho.inj j k hj hk e) false h0 qs
   exact ⟨f, st, fun _ => ⟨h1, h2⟩⟩
 obtain ⟨f, st, hst⟩ := key
 obtain ⟨e, h', sc, le, y, G, gb, he, hC, h1, h2, h3, h4, h5⟩ := group_sem hn (qs.map nums) qs rfl (by rw [List.length_map]; exact hqs) ord ho h born gv0 ov hg hov f st (fun h0 => (hst h0).1) fun h0 j hj => Nat.le_trans (ind_len hn ((hst h0).2.good j (Nat.zero_le _) hj).lev.ind) (by omega)
 exact ⟨e, h', sc, le, y.C, he, hC, ⟨y, G, gb, st, rfl, fun h0 => ⟨h1 h0, (hst h0).2⟩, h2, h3⟩, h4, h5⟩
theorem range_nums (n : Nat) : irow ((List.range n).map fun (x : Nat) => (x : Int)) = pl (List.range n) := by simp only [irow, pl, List.map_map, List.length_map]; rfl
def nilP : AV := .flat (.pointer none)
theorem new_sem {n : Nat} (hn : n ≤ 64) (ps : List (List Int)) (hps : ps.length ≤ 16) (hpl : ∀ p ∈ ps, p.length ≤ 1000000) (h : Hp) (born : ∀ i, h.next ≤ i → h.m i = none) (gv0 : AV) (hg : RowsAt h gv0 ps) :
    ∃ e h', SemCall Try.prog 13 [pc n, gv0] h e h' ∧ Hp.Le h h' ∧ ((¬ (∀ p ∈ ps, OkRow n p) ∧ e = .ret (.tuple [nilP, .flat (.int .i64 180)]) ∧ h' = h) ∨
     ∃ (qs : List (Pm n)) (C : Nat), ps = qs.map nums ∧ e = .ret (.tuple [.ptr C 0, .flat (.int .i64 0)]) ∧ h.next ≤ C ∧ IsChain (List.range n) qs C h' ∧ (∀ i, i < h.next → h'.m i = h.m i) ∧ ∀ i, h'.next ≤ i → h'.m i = none) := by
 refine sem_heap tables.ok Try.func13 rfl rfl rfl rfl ?_
 have B := base0
 have hl0 := rows_len hg
 obtain ⟨m, hm⟩ : ∃ m, m = ps.length := ⟨_, rfl⟩
 rw [← hm] at hl0
 unfold Try.f13 bodyOf entry; simp only [Option.getD_some, List.length_cons, List.length_nil, Nat.reduceAdd, Nat.reduceSub]
 repeat (first
  | refine wp_seqQ ?_ | refine wp_blockQ ?_ | refine wp_scopeQ ?_
  | ((first | refine wp_skipQ ?_ | refine wp_labelQ ?_ | refine wp_exitQ ?_ | refine wp_retQ ?_); simp only [kQ, Nat.reduceEqDiff, reduceIte])
  | (refine wp_reg B ?_; simp (disch := omega) only [kW, Nat.reduceEqDiff, reduceIte, Nat.reduceLT, Nat.reduceLeDiff, Nat.reduceAdd, Nat.reduceSub, Nat.reduceMul, Nat.reducePow, Nat.reduceDiv, Nat.reduceMod, evIndexAddr, TD.agg, evFieldAddr, ty3, ty22, ty23, ty28, fn28, fn38, fn37, pc, hl0])
  | refine wp_condT rfl ?_ | refine wp_condF rfl ?_)
 refine wp_loopQ (fun f' z => ∃ (i : Nat) (tm : Nat → Option AV), z = ⟨tm, 39, h, []⟩ ∧ f' = m - i ∧ i ≤ m ∧ tm 0 = some (pc n) ∧ tm 1 = some gv0 ∧ tm 18 = some gv0 ∧ tm 19 = some (.flat (.int .i64 (m : Int))) ∧ tm 20 = some (.flat (.int .i64 (i : Int))) ∧ ∀ p ∈ ps.take i, OkRow n p) m ?_ ?_
 ·exact ⟨0, _, rfl, rfl, Nat.zero_le _, rfl, rfl, rfl, rfl, rfl, fun p hp => by simp at hp⟩
 ·rintro f' z ⟨i, tm, rfl, rfl, hi, t0, t1, t18, t19, t20, hok⟩
  repeat (first
   | refine wp_seqQ ?_ | refine wp_blockQ ?_ | refine wp_scopeQ ?_
   | ((first | refine wp_skipQ ?_ | refine wp_labelQ ?_ | refine wp_exitQ ?_ | refine wp_retQ ?_); simp only [kQ, Nat.reduceEqDiff, reduceIte])
   | (refine wp_reg B ?_; simp (disch := omega) only [kW, Nat.reduceEqDiff, reduceIte, Nat.reduceLT, Nat.reduceLeDiff, Nat.reduceAdd, Nat.reduceSub, Nat.reduceMul, Nat.reducePow, Nat.reduceDiv, Nat.reduceMod, evIndexAddr, TD.agg, evFieldAddr, ty3, ty22, ty23, ty28, fn28, fn38, fn37, t0, t1, t18, t19, t20])
   | refine wp_condT rfl ?_ | refine wp_condF rfl ?_)
  refine wp_if rfl (fun ilt => ?_) (fun ige => ?_)
  ·obtain ⟨p, hp⟩ : ∃ p, ps[i]? = some p := ⟨_, List.getElem?_eq_getElem (by omega)⟩
   have hpm := List.mem_of_getElem? hp
   repeat (first
    | refine wp_seqQ ?_ | refine wp_blockQ ?_ | refine wp_scopeQ ?_
    | ((first | refine wp_skipQ ?_ | refine wp_labelQ ?_ | refine wp_exitQ ?_ | refine wp_retQ ?_); simp only [kQ, Nat.reduceEqDiff, reduceIte])
    | ((fail_if_success refine wp_reg (id := 9) B ?_); refine wp_reg B ?_; simp (disch := omega) only [kW, Nat.reduceEqDiff, reduceIte, Nat.reduceLT, Nat.reduceLeDiff, Nat.reduceAdd, Nat.reduceSub, Nat.reduceMul, Nat.reducePow, Nat.reduceDiv, Nat.reduceMod, evIndexAddr, TD.agg, evFieldAddr, ty3, ty22, ty23, ty28, fn28, fn38, fn37, t0, t1, t18, t19, t20])
    | refine wp_condT rfl ?_ | refine wp_condF rfl ?_)
   refine WP.mono (Q := fun e s' => e = .normal ∧ ∃ (tm : Nat → Option AV) (r : AV), s' = ⟨tm, 39, h, []⟩ ∧ tm 0 = some (pc n) ∧ tm 1 = some gv0 ∧ tm 18 = some gv0 ∧ tm 19 = some (.flat (.int .i64 (m : Int))) ∧ tm 20 = some (.flat (.int .i64 (i : Int))) ∧ tm 7 = some r ∧ RowAt h r p) ?_ ?_
   ·rcases hg with e | ⟨_, e⟩ | ⟨b, cp, x, rs, e, hcp, hb, hl, hr⟩
    ·rw [e, ← hm] at t18
     have hpi := rows_get hp
     repeat (first
      | refine wp_seqQ ?_ | refine wp_blockQ ?_ | refine wp_scopeQ ?_
      | ((first | refine wp_skipQ ?_ | refine wp_labelQ ?_ | refine wp_exitQ ?_ | refine wp_retQ ?_); simp only [kQ, Nat.reduceEqDiff, reduceIte])
      | (refine wp_reg B ?_; simp (disch := omega) only [kW, Nat.reduceEqDiff, reduceIte, Nat.reduceLT, Nat.reduceLeDiff, Nat.reduceAdd, Nat.reduceSub, Nat.reduceMul, Nat.reducePow, Nat.reduceDiv, Nat.reduceMod, evIndexAddr, TD.agg, evFieldAddr, ty3, ty22, ty23, ty28, fn28, fn38, fn37, t0, t1, t18, t19, t20, hpi])
      | refine wp_condT rfl ?_ | refine wp_condF rfl ?_)
     exact ⟨_, _, rfl, t0, t1, by rw [e, ← hm]; exact t18, t19, t20, rfl, .inl rfl⟩
    ·rw [e] at hm; simp at hm; omega
    ·obtain ⟨r, h1, h2⟩ := hr i p hp
     rw [e, ← hm] at t18
     rw [← hm] at hl
     repeat (first
      | refine wp_seqQ ?_ | refine wp_blockQ ?_ | refine wp_scopeQ ?_
      | ((first | refine wp_skipQ ?_ | refine wp_labelQ ?_ | refine wp_exitQ ?_ | refine wp_retQ ?_); simp only [kQ, Nat.reduceEqDiff, reduceIte])
      | (refine wp_reg B ?_; simp (disch := omega) only [kW, Nat.reduceEqDiff, reduceIte, Nat.reduceLT, Nat.reduceLeDiff, Nat.reduceAdd, Nat.reduceSub, Nat.reduceMul, Nat.reducePow, Nat.reduceDiv, Nat.reduceMod, evIndexAddr, TD.agg, evFieldAddr, ty3, ty22, ty23, ty28, fn28, fn38, fn37, t0, t1, t18, t19, t20, hb, h1, hl])
      | refine wp_condT rfl ?_ | refine wp_condF rfl ?_)
     exact ⟨_, _, rfl, t0, t1, by rw [e, ← hm]; exact t18, t19, t20, rfl, h2⟩
   ·rintro e s' ⟨rfl, tm, r, rfl, t0, t1, t18, t19, t20, t7, hr⟩
    simp only [thenQ_normal]
    have hrl := row_len hr
    have sc := check_at hr (by have := hpl p hpm; omega)
    obtain ⟨call, B, c1, _⟩ := call_at tables.ok mixed [] sc (Hp.Le.refl _)
    by_cases e1 : p.length = n
    ·rw [e1] at hrl
     by_cases e2 : checkP p = 0
     ·rw [e2] at c1
      repeat (first
       | refine wp_seqQ ?_ | refine wp_blockQ ?_ | refine wp_scopeQ ?_
       | ((first | refine wp_skipQ ?_ | refine wp_labelQ ?_ | refine wp_exitQ ?_ | refine wp_retQ ?_); simp only [kQ, Nat.reduceEqDiff, reduceIte])
       | (refine wp_reg B ?_; simp (disch := omega) only [kW, Nat.reduceEqDiff, reduceIte, Nat.reduceLT, Nat.reduceLeDiff, Nat.reduceAdd, Nat.reduceSub, Nat.reduceMul, Nat.reducePow, Nat.reduceDiv, Nat.reduceMod, evIndexAddr, TD.agg, evFieldAddr, ty3, ty22, ty23, ty28, fn28, fn38, fn37, t0, t1, t18, t19, t20, t7, hrl, c1, pc])
       | refine wp_condT rfl ?_ | refine wp_condF rfl ?_)
      refine ⟨_, ?_, i + 1, _, rfl, rfl, by omega, t0, t1, t18, t19, rfl, fun q hq => ?_⟩
      ·omega
      ·rw [List.take_add_one, hp] at hq
       rcases List.mem_append.1 hq with hq | hq
       ·exact hok q hq
       ·simp only [Option.toList_some, List.mem_singleton] at hq
        subst hq; exact ⟨e1, e2⟩
     ·repeat (first
        | refine wp_seqQ ?_ | refine wp_blockQ ?_ | refine wp_scopeQ ?_
        | ((first | refine wp_skipQ ?_ | refine wp_labelQ ?_ | refine wp_exitQ ?_ | refine wp_retQ ?_); simp only [kQ, Nat.reduceEqDiff, reduceIte])
        | (refine wp_reg B ?_; simp (disch := omega) only [kW, Nat.reduceEqDiff, reduceIte, Nat.reduceLT, Nat.reduceLeDiff, Nat.reduceAdd, Nat.reduceSub, Nat.reduceMul, Nat.reducePow, Nat.reduceDiv, Nat.reduceMod, evIndexAddr, TD.agg, evFieldAddr, ty3, ty22, ty23, ty28, fn28, fn38, fn37, t0, t1, t18, t19, t20, t7, hrl, c1, pc])
        | refine wp_condT rfl ?_ | refine wp_condF rfl ?_)
      simp (disch := omega) only [kS, Nat.reduceEqDiff, reduceIte, Nat.reduceLT, Nat.reduceLeDiff, Nat.reduceAdd, Nat.reduceSub, Nat.reduceMul, Nat.reducePow, Nat.reduceDiv, Nat.reduceMod, evIndexAddr, TD.agg, evFieldAddr, ty3, ty22, ty23, ty28, fn28, fn38, fn37]
      exact .inl ⟨fun k => e2 (k p hpm).2, rfl⟩
    ·repeat (first
       | refine wp_seqQ ?_ | refine wp_blockQ ?_ | refine wp_scopeQ ?_
       | ((first | refine wp_skipQ ?_ | refine wp_labelQ ?_ | refine wp_exitQ ?_ | refine wp_retQ ?_); simp only [kQ, Nat.reduceEqDiff, reduceIte])
       | (refine wp_reg B ?_; simp (disch := omega) only [kW, Nat.reduceEqDiff, reduceIte, Nat.reduceLT, Nat.reduceLeDiff, Nat.reduceAdd, Nat.reduceSub, Nat.reduceMul, Nat.reducePow, Nat.reduceDiv, Nat.reduceMod, evIndexAddr, TD.agg, evFieldAddr, ty3, ty22, ty23, ty28, fn28, fn38, fn37, t0, t1, t18, t19, t20, t7, hrl, c1, pc])
       | refine wp_condT rfl ?_ | refine wp_condF rfl ?_)
     simp (disch := omega) only [kS, Nat.reduceEqDiff, reduceIte, Nat.reduceLT, Nat.reduceLeDiff, Nat.reduceAdd, Nat.reduceSub, Nat.reduceMul, Nat.reducePow, Nat.reduceDiv, Nat.reduceMod, evIndexAddr, TD.agg, evFieldAddr, ty3, ty22, ty23, ty28, fn28, fn38, fn37]
     exact .inl ⟨fun k => e1 (k p hpm).1, rfl⟩
  ·have e : m = i := by omega
   subst e
   rw [hm, List.take_of_length_le (Nat.le_refl _)] at hok
   obtain ⟨qs, hqs⟩ := all_pm ps hok
   rw [hqs] at hg
   have hql : qs.length ≤ 16 := by rw [hqs, List.length_map] at hps; exact hps
   obtain ⟨e, h', sc, le, C, rfl, hC, hch, hold, hb⟩ := group_chain hn qs (by omega) (List.range n) (is_range n) h born gv0 (pl (List.range n)) hg (.inl (range_nums n).symm)
   obtain ⟨call, B, c1, c2⟩ := call_at tables.ok mixed [EcStill] sc le
   have c3 : ∀ a h, call 38 a h = EcStill.ans a h := fun a h => (c2 _ a h (by decide)).trans (tabL_hit EcStill [] _ a h rfl)
   have k1 : ∀ h, EcStill.ans [.flat (.int .i64 (n : Int))] h = some (.ret (pl (List.range n)), h) := fun h => EcStill_ans n h (by omega)
   simp only [pc] at c1
   repeat (first
    | refine wp_seqQ ?_ | refine wp_blockQ ?_ | refine wp_scopeQ ?_
    | ((first | refine wp_skipQ ?_ | refine wp_labelQ ?_ | refine wp_exitQ ?_ | refine wp_retQ ?_); simp only [kQ, Nat.reduceEqDiff, reduceIte])
    | (refine wp_reg B ?_; simp (disch := omega) only [kW, Nat.reduceEqDiff, reduceIte, Nat.reduceLT, Nat.reduceLeDiff, Nat.reduceAdd, Nat.reduceSub, Nat.reduceMul, Nat.reducePow, Nat.reduceDiv, Nat.reduceMod, evIndexAddr, TD.agg, evFieldAddr, ty3, ty22, ty23, ty28, fn28, fn38, fn37, t0, t1, t18, pc, c1, c3, k1])
    | refine wp_condT rfl ?_ | refine wp_condF rfl ?_)
   simp (disch := omega) only [kS, Nat.reduceEqDiff, reduceIte, Nat.reduceLT, Nat.reduceLeDiff, Nat.reduceAdd, Nat.reduceSub, Nat.reduceMul, Nat.reducePow, Nat.reduceDiv, Nat.reduceMod, evIndexAddr, TD.agg, evFieldAddr, ty3, ty22, ty23, ty28, fn28, fn38, fn37]
   exact .inr ⟨qs, C, hqs, rfl, hC, hch, hold, hb⟩
end Go.Proofs.Ytkffcclalncgdaa.Iv
end
section
set_option maxHeartbeats 8000000
set_option linter.unusedVariables false
set_option linter.unusedSimpArgs false
set_option maxRecDepth 10000
namespace Go.Proofs.Ytkffcclalncgdaa.Iv
open Go Go.Iv Go.RowKit Pg Ch
theorem call_at2 {P : Program} {T : Tab} (hT : T.Ok P) (hm : P.follows .mixedOrders = true) {f f2 : FuncId} {args args2 : List AV} {h h' g g' : Hp} {e e2 : AEnd} (k : SemCall P f args h e h') (le : Hp.Le h h') (k2 : SemCall P f2 args2 g e2 g') (le2 : Hp.Le g g') (hne : f2 ≠ f) :
    ∃ call, Base P T call ∧ call f args h = some (e, h') ∧ call f2 args2 g = some (e2, g') := by
 obtain ⟨E, hE⟩ : ∃ E : Entry P, E = ⟨f2, fun a b e3 g2 => a = args2 ∧ b = g ∧ e3 = e2 ∧ g2 = g', by rintro _ _ _ _ ⟨rfl, rfl, rfl, rfl⟩; exact ⟨k2, le2⟩⟩ := ⟨_, rfl⟩
 obtain ⟨call, B, c1, c2⟩ := call_at hT hm [E] k le
 refine ⟨call, B, c1, ?_⟩
 rw [c2 f2 args2 g hne, tabL_hit E [] f2 args2 g (by rw [hE])]
 obtain ⟨e1, h1, h2, h3⟩ := Entry.some (E := E) (args := args2) (h := g) (e := e2) (h' := g') (by rw [hE]; exact ⟨rfl, rfl, rfl, rfl⟩)
 rw [h2]
 rw [hE] at h3
 obtain ⟨_, _, rfl, rfl⟩ := h3
 rfl
open Classical in
noncomputable def hasB {n : Nat} (gens : List (Pm n)) (q : Pm n) : Bool := decide (Mon gens q)
theorem hasB_true {n : Nat} {gens : List (Pm n)} {q : Pm n} (h : Mon gens q) : hasB gens q = true := by unfold hasB; simp [h]
theorem hasB_false {n : Nat} {gens : List (Pm n)} {q : Pm n} (h : ¬ Mon gens q) : hasB gens q = false := by unfold hasB; simp [h]
theorem mon_zero {gens : List (Pm 0)} (q : Pm 0) : Mon gens q := by
 have : q = Pm.one 0 := Pm.ext fun i hi => absurd hi (Nat.not_lt_zero i)
 rw [this]; exact .one
theorem IsChain.head {n : Nat} {ord : List Nat} {gens : List (Pm n)} {C : Nat} {h : Hp} (k : IsChain ord gens C h) : ∃ G kv, h.m C = some (.cells [pc n, G, kv] 73 false) := by
 obtain ⟨y, G, gb, st, rfl, h1, h2, _⟩ := k
 rcases Nat.eq_zero_or_pos n with h0 | h0
 ·exact ⟨_, _, h2 h0⟩
 ·exact ⟨_, _, (h1 h0).1.chain⟩
theorem has_ok {n : Nat} {ord : List Nat} (ho : Is n ord) {gens : List (Pm n)} {C : Nat} {h : Hp} (s : IsChain ord gens C h) (hC : C < h.next) (q : Pm n) (hn : n ≤ 64) :
    SemCall Try.prog 23 [.ptr C 0, pl q.l] h (.ret (.tuple [.flat (.bool (hasB gens q)), .flat (.int .i64 0)])) h := by
 refine sem_still tables.ok Try.func23 rfl rfl rfl rfl ?_
 have sc := pcheck_sem (nums q) (by rw [nums_len]; omega) h
 rw [check_pm hn, nums_irow] at sc
 have hrl : evLen tab 23 (pl q.l) = some (.flat (.int .i64 (n : Int))) := by
  have := row_len (h := h) (p := nums q) (.inl rfl)
  rwa [nums_irow, nums_len] at this
 unfold Try.f23 bodyOf entry; simp only [Option.getD_some, List.length_cons, List.length_nil, Nat.reduceAdd, Nat.reduceSub]
 by_cases hn0 : n = 0
 ·subst hn0
  obtain ⟨call, B, c1, _⟩ := call_at tables.ok mixed [] sc (Hp.Le.refl _)
  obtain ⟨G, kv, hh⟩ := s.head
  rw [hasB_true (mon_zero q)]
  repeat (first
   | refine wp_seqQ ?_ | refine wp_blockQ ?_ | refine wp_scopeQ ?_
   | ((first | refine wp_skipQ ?_ | refine wp_labelQ ?_ | refine wp_exitQ ?_ | refine wp_retQ ?_); simp only [kQ, Nat.reduceEqDiff, reduceIte])
   | (refine wp_reg B ?_; simp (disch := omega) only [kW, Nat.reduceEqDiff, reduceIte, Nat.reduceLT, Nat.reduceLeDiff, Nat.reduceAdd, Nat.reduceSub, Nat.reduceMul, Nat.reducePow, Nat.reduceDiv, Nat.reduceMod, evIndexAddr, TD.agg, evFieldAddr, ty3, ty22, ty23, ty27, ty28, ty65, ty67, ty68, ty70, ty73, fn28, fn46, hh, pc, hrl, c1])
   | refine wp_condT rfl ?_ | refine wp_condF rfl ?_)
  simp (disch := omega) only [kS, Nat.reduceEqDiff, reduceIte, Nat.reduceLT, Nat.reduceLeDiff, Nat.reduceAdd, Nat.reduceSub, Nat.reduceMul, Nat.reducePow, Nat.reduceDiv, Nat.reduceMod, evIndexAddr, TD.agg, evFieldAddr, ty3, ty22, ty23, ty27, ty28, ty65, ty67, ty68, ty70, ty73, fn28, fn46]
 ·obtain ⟨y, G, gb, st, rfl, h1, _⟩ := s
  obtain ⟨s1, of1⟩ := h1 (by omega)
  have hh := s1.chain' (by omega)
  have sf := sifted_sem (by omega) s1 (fun k hk => ho.lt k hk) (show 0 < n by omega) q
  rw [Nat.sub_zero] at sf
  obtain ⟨call, B, c1, c2⟩ := call_at2 tables.ok mixed sc (Hp.Le.refl _) sf (Hp.Le.refl _) (by decide)
  have lC := s1.ltC
  cases hs : sift (fun k => ap ord k) st n 0 q with
  | none =>
   rw [hasB_false fun hm => by
    have := (of1.mem 0 (Nat.zero_le _) q fun j hj => absurd hj (Nat.not_lt_zero j)).2 hm
    unfold In at this
    rw [Nat.sub_zero, hs] at this; cases this]
   rw [hs] at c2
   simp only [optV, nilS] at c2
   repeat (first
    | refine wp_seqQ ?_ | refine wp_blockQ ?_ | refine wp_scopeQ ?_
    | ((first | refine wp_skipQ ?_ | refine wp_labelQ ?_ | refine wp_exitQ ?_ | refine wp_retQ ?_); simp only [kQ, Nat.reduceEqDiff, reduceIte])
    | (refine wp_reg B ?_; simp (disch := omega) only [kW, Nat.reduceEqDiff, reduceIte, Nat.reduceLT, Nat.reduceLeDiff, Nat.reduceAdd, Nat.reduceSub, Nat.reduceMul, Nat.reducePow, Nat.reduceDiv, Nat.reduceMod, evIndexAddr, TD.agg, evFieldAddr, ty3, ty22, ty23, ty27, ty28, ty65, ty67, ty68, ty70, ty73, fn28, fn46, hh, pc, hrl, c1, c2])
    | refine wp_condT rfl ?_ | refine wp_condF rfl ?_)
   simp (disch := omega) only [kS, Nat.reduceEqDiff, reduceIte, Nat.reduceLT, Nat.reduceLeDiff, Nat.reduceAdd, Nat.reduceSub, Nat.reduceMul, Nat.reducePow, Nat.reduceDiv, Nat.reduceMod, evIndexAddr, TD.agg, evFieldAddr, ty3, ty22, ty23, ty27, ty28, ty65, ty67, ty68, ty70, ty73, fn28, fn46]
   rfl
  | some r =>
   rw [hasB_true ((of1.mem 0 (Nat.zero_le _) q fun j hj => absurd hj (Nat.not_lt_zero j)).1 (by unfold In; rw [Nat.sub_zero, hs]; rfl))]
   rw [hs] at c2
   have hp := pl_cons (show 0 < n by omega) r
   simp only [optV, hp] at c2
   repeat (first
    | refine wp_seqQ ?_ | refine wp_blockQ ?_ | refine wp_scopeQ ?_
    | ((first | refine wp_skipQ ?_ | refine wp_labelQ ?_ | refine wp_exitQ ?_ | refine wp_retQ ?_); simp only [kQ, Nat.reduceEqDiff, reduceIte])
    | (refine wp_reg B ?_; simp (disch := omega) only [kW, Nat.reduceEqDiff, reduceIte, Nat.reduceLT, Nat.reduceLeDiff, Nat.reduceAdd, Nat.reduceSub, Nat.reduceMul, Nat.reducePow, Nat.reduceDiv, Nat.reduceMod, evIndexAddr, TD.agg, evFieldAddr, ty3, ty22, ty23, ty27, ty28, ty65, ty67, ty68, ty70, ty73, fn28, fn46, hh, pc, hrl, c1, c2, binA_islN ty23])
    | refine wp_condT rfl ?_ | refine wp_condF rfl ?_)
   simp (disch := omega) only [kS, Nat.reduceEqDiff, reduceIte, Nat.reduceLT, Nat.reduceLeDiff, Nat.reduceAdd, Nat.reduceSub, Nat.reduceMul, Nat.reducePow, Nat.reduceDiv, Nat.reduceMod, evIndexAddr, TD.agg, evFieldAddr, ty3, ty22, ty23, ty27, ty28, ty65, ty67, ty68, ty70, ty73, fn28, fn46]
end Go.Proofs.Ytkffcclalncgdaa.Iv
end
section
set_option maxHeartbeats 8000000
set_option linter.unusedVariables false
set_option linter.unusedSimpArgs false
set_option maxRecDepth 10000
namespace Go.Proofs.Ytkffcclalncgdaa.Iv
open Go Go.Iv Go.RowKit Pg Ch
def SlAt (base : Nat) (te : TypeId) (h : Hp) (v : AV) (l : List AV) : Prop := (l = [] ∧ v = nilS) ∨ ∃ B, v = .slice B 0 l.length (.toEnd 1) ∧ h.m B = some (.cells l te true) ∧ base ≤ B
theorem SlAt.mono {base : Nat} {te : TypeId} {h h' : Hp} {v : AV} {l : List AV} (k : SlAt base te h v l) (hs : ∀ i, h.m i ≠ none → h'.m i = h.m i) : SlAt base te h' v l := by
 rcases k with k | ⟨B, h1, h2, h3⟩
 ·exact .inl k
 ·exact .inr ⟨B, h1, by rw [hs B (by rw [h2]; simp)]; exact h2, h3⟩
theorem SlAt.len {base : Nat} {te : TypeId} {h : Hp} {v : AV} {l : List AV} (k : SlAt base te h v l) {T : Tab} {t e : TypeId} {a b : Nat} {z : List Value} (ht : T.types.get t = some ⟨.slice e, a, b, z⟩) : evLen T t v = some (.flat (.int .i64 (l.length : Int))) := by
 rcases k with ⟨rfl, rfl⟩ | ⟨B, rfl, _⟩
 ·simp only [nilS, len_nil, ht]; rfl
 ·simp only [len_slice, ht]
open Classical in
noncomputable def orbK {n : Nat} (β : Nat → Nat) (gens : List (Pm n)) (k : Nat) : List Nat := (List.range n).filter fun x => decide (Orb β gens k x)
theorem orbK_keys {n : Nat} {β : Nat → Nat} {gens : List (Pm n)} {st : St n} (o : Of β gens st) {k : Nat} (hk : k < n) : keys (st.T k) = orbK β gens k := by
 unfold keys orbK
 refine List.filter_congr fun x _ => ?_
 have := o.orb k hk x
 cases h : (Ch.get (st.T k) x).isSome with
 | true => rw [h] at this; simp [this.1 rfl]
 | false =>
  rw [h] at this
  have : ¬ Orb β gens k x := fun c => by have := this.2 c; cases this
  simp [this]
theorem orbK_len {n : Nat} {β : Nat → Nat} {gens : List (Pm n)} {st : St n} (o : Of β gens st) {k : Nat} (hk : k < n) : (st.T k).length = (orbK β gens k).length := by
 rw [← orbK_keys o hk]
 have L := (o.good k (Nat.zero_le _) hk).lev
 rw [(keys_perm L.key.1 L.key.2).length_eq, List.length_map]
noncomputable def baseK {n : Nat} (β : Nat → Nat) (gens : List (Pm n)) : List Nat := (List.range n).filter fun k => decide (1 < (orbK β gens k).length)
theorem base_sem {n : Nat} (hn : n ≤ 64) (hn0 : 0 < n) {y : Lay} {β : Nat → Nat} {G : AV} {gb : Nat → Option Nat} {gens : List (Pm n)} {st : St n} {h : Hp} (s : Stands y β G gb st h) (o : Of β gens st) :
    ∃ e h', SemCall Try.prog 40 [.ptr y.C 0] h e h' ∧ Hp.Le h h' ∧ ∃ v, e = .ret v ∧ SlAt h.next 67 h' v ((baseK β gens).map fun k => .ptr (y.L k) 0) ∧ (∀ i, i < h.next → h'.m i = h.m i) ∧ (∀ i, h'.next ≤ i → h'.m i = none) ∧ h.next ≤ h'.next := by
 refine sem_heap tables.ok Try.func40 rfl rfl rfl rfl ?_
 have B := base0
 have hC := s.chain' hn0
 have hK := s.links hn0
 have lC := s.ltC
 have lK := s.ltK hn0
 unfold Try.f40 bodyOf entry; simp only [Option.getD_some, List.length_cons, List.length_nil, Nat.reduceAdd, Nat.reduceSub]
 repeat (first
  | refine wp_seqQ ?_ | refine wp_blockQ ?_ | refine wp_scopeQ ?_
  | ((first | refine wp_skipQ ?_ | refine wp_labelQ ?_ | refine wp_exitQ ?_ | refine wp_retQ ?_); simp only [kQ, Nat.reduceEqDiff, reduceIte])
  | (refine wp_reg B ?_; simp (disch := omega) only [kW, Nat.reduceEqDiff, reduceIte, Nat.reduceLT, Nat.reduceLeDiff, Nat.reduceAdd, Nat.reduceSub, Nat.reduceMul, Nat.reducePow, Nat.reduceDiv, Nat.reduceMod, evIndexAddr, TD.agg, evFieldAddr, ty3, ty22, ty23, ty27, ty65, ty67, ty68, ty70, ty73, hC])
  | refine wp_condT rfl ?_ | refine wp_condF rfl ?_)
 refine wp_loopQ (fun f' z => ∃ (i : Nat) (tm : Nat → Option AV) (hh : Hp) (v : AV), z = ⟨tm, 29, hh, []⟩ ∧ f' = n - i ∧ i ≤ n ∧ tm 3 = some v ∧ tm 11 = some (.slice y.K 0 n (.toEnd 1)) ∧ tm 12 = some (.flat (.int .i64 (n : Int))) ∧ tm 13 = some (.flat (.int .i64 (i : Int))) ∧
  SlAt h.next 67 hh v (((List.range i).filter fun k => decide (1 < (orbK β gens k).length)).map fun k => .ptr (y.L k) 0) ∧ (∀ j, j < h.next → hh.m j = h.m j) ∧ (∀ j, hh.next ≤ j → hh.m j = none) ∧ h.next ≤ hh.next) n ?_ ?_
 ·exact ⟨0, _, _, _, rfl, rfl, Nat.zero_le _, rfl, rfl, rfl, rfl, .inl ⟨rfl, rfl⟩, fun _ _ => rfl, s.born, Nat.le_refl _⟩
 ·rintro f' z ⟨i, tm, hh, v, rfl, rfl, hi, t3, t11, t12, t13, hv, hold, hborn, hnx⟩
  repeat (first
   | refine wp_seqQ ?_ | refine wp_blockQ ?_ | refine wp_scopeQ ?_
   | ((first | refine wp_skipQ ?_ | refine wp_labelQ ?_ | refine wp_exitQ ?_ | refine wp_retQ ?_); simp only [kQ, Nat.reduceEqDiff, reduceIte])
   | (refine wp_reg B ?_; simp (disch := omega) only [kW, Nat.reduceEqDiff, reduceIte, Nat.reduceLT, Nat.reduceLeDiff, Nat.reduceAdd, Nat.reduceSub, Nat.reduceMul, Nat.reducePow, Nat.reduceDiv, Nat.reduceMod, evIndexAddr, TD.agg, evFieldAddr, ty3, ty22, ty23, ty27, ty65, ty67, ty68, ty70, ty73, t3, t11, t12, t13])
   | refine wp_condT rfl ?_ | refine wp_condF rfl ?_)
  refine wp_if rfl (fun ilt => ?_) (fun ige => ?_)
  ·have hin : i < n := by omega
   have hK1 := hK
   have hL1 := s.link i hin
   have hM1 := s.map i hin
   rw [← hold _ lK] at hK1
   rw [← hold _ (s.ltL hin)] at hL1
   rw [← hold _ (s.ltM hin)] at hM1
   have hKc : (List.map (fun k => AV.ptr (y.L k) 0) (List.range n))[i]? = some (.ptr (y.L i) 0) := by rw [List.getElem?_map, List.getElem?_range hin]; rfl
   have hTl : (List.map ent (st.T i)).length = (orbK β gens i).length := by rw [List.length_map, orbK_len o hin]
   have hsm : (orbK β gens i).length ≤ n := by
    have := List.length_filter_le (fun x => @decide (Orb β gens i x) (Classical.propDecidable _)) (List.range n)
    rw [List.length_range] at this
    exact this
   have hfl : ((List.range i).filter fun k => decide (1 < (orbK β gens k).length)).length ≤ i := by
    have := List.length_filter_le (fun k => decide (1 < (orbK β gens k).length)) (List.range i)
    rw [List.length_range] at this
    exact this
   have hrs : (List.range (i + 1)).filter (fun k => decide (1 < (orbK β gens k).length)) = (List.range i).filter (fun k => decide (1 < (orbK β gens k).length)) ++ (if 1 < (orbK β gens i).length then [i] else []) := by
    rw [List.range_succ, List.filter_append]
    congr 1
    by_cases c : 1 < (orbK β gens i).length <;> simp [c]
   have lL := s.ltL hin
   have lM := s.ltM hin
   by_cases hmv : 1 < (orbK β gens i).length
   ·rw [if_pos hmv] at hrs
    rcases hv with ⟨e0, rfl⟩ | ⟨B0, rfl, hB0, hbB⟩
    ·simp only [nilS] at t3
     repeat (first
      | refine wp_seqQ ?_ | refine wp_blockQ ?_ | refine wp_scopeQ ?_
      | ((first | refine wp_skipQ ?_ | refine wp_labelQ ?_ | refine wp_exitQ ?_ | refine wp_retQ ?_); simp only [kQ, Nat.reduceEqDiff, reduceIte])
      | (refine wp_reg B ?_; simp (disch := omega) only [kW, Nat.reduceEqDiff, reduceIte, Nat.reduceLT, Nat.reduceLeDiff, Nat.reduceAdd, Nat.reduceSub, Nat.reduceMul, Nat.reducePow, Nat.reduceDiv, Nat.reduceMod, evIndexAddr, TD.agg, evFieldAddr, ty3, ty22, ty23, ty27, ty65, ty67, ty68, ty70, ty73, t3, t11, t12, t13, hK1, hL1, hM1, hKc, hTl, cleanNP])
      | refine wp_condT rfl ?_ | refine wp_condF rfl ?_)
     refine ⟨_, ?_, i + 1, _, _, _, rfl, rfl, by omega, rfl, t11, t12, rfl, .inr ⟨hh.next + 1, ?_, ?_, by omega⟩, fun j hj => ?_, fun j hj => ?_, ?_⟩
     ·omega
     ·rw [hrs, List.map_append, e0]; rfl
     ·dsimp only; rw [upd_eq, hrs, List.map_append, e0]; rfl
     ·dsimp only; rw [upd_ne _ _ (by omega), upd_ne _ _ (by omega)]; exact hold j hj
     ·dsimp only at hj ⊢; rw [upd_ne _ _ (by omega), upd_ne _ _ (by omega)]; exact hborn j (by omega)
     ·dsimp only; omega
    ·have lb := lt_next hborn hB0
     obtain ⟨m, hm⟩ : ∃ m, m = ((List.range i).filter fun k => decide (1 < (orbK β gens k).length)).length := ⟨_, rfl⟩
     rw [List.length_map, ← hm] at t3
     have hll : (((List.range i).filter fun k => decide (1 < (orbK β gens k).length)).map fun k => AV.ptr (y.L k) 0).length = m := by rw [List.length_map, hm]
     have hcl : allClean (((List.range i).filter fun k => decide (1 < (orbK β gens k).length)).map fun k => AV.ptr (y.L k) 0) = true := clean_ptr _ _ _
     repeat (first
      | refine wp_seqQ ?_ | refine wp_blockQ ?_ | refine wp_scopeQ ?_
      | ((first | refine wp_skipQ ?_ | refine wp_labelQ ?_ | refine wp_exitQ ?_ | refine wp_retQ ?_); simp only [kQ, Nat.reduceEqDiff, reduceIte])
      | (refine wp_reg B ?_; simp (disch := omega) only [kW, Nat.reduceEqDiff, reduceIte, Nat.reduceLT, Nat.reduceLeDiff, Nat.reduceAdd, Nat.reduceSub, Nat.reduceMul, Nat.reducePow, Nat.reduceDiv, Nat.reduceMod, evIndexAddr, TD.agg, evFieldAddr, ty3, ty22, ty23, ty27, ty65, ty67, ty68, ty70, ty73, t3, t11, t12, t13, hK1, hL1, hM1, hKc, hTl, cleanNP, hB0, hll, hcl])
      | refine wp_condT rfl ?_ | refine wp_condF rfl ?_)
     refine ⟨_, ?_, i + 1, _, _, _, rfl, rfl, by omega, rfl, t11, t12, rfl, .inr ⟨hh.next + 1, ?_, ?_, by omega⟩, fun j hj => ?_, fun j hj => ?_, ?_⟩
     ·omega
     ·rw [hrs, List.map_append, List.length_append, hll]; rfl
     ·dsimp only; rw [upd_eq, hrs, List.map_append]; rfl
     ·dsimp only; rw [upd_ne _ _ (by omega), upd_ne _ _ (by omega), upd_ne _ _ (by omega)]; exact hold j hj
     ·dsimp only at hj ⊢; rw [upd_ne _ _ (by omega), upd_ne _ _ (by omega), upd_ne _ _ (by omega)]; exact hborn j (by omega)
     ·dsimp only; omega
   ·rw [if_neg hmv, List.append_nil] at hrs
    repeat (first
     | refine wp_seqQ ?_ | refine wp_blockQ ?_ | refine wp_scopeQ ?_
     | ((first | refine wp_skipQ ?_ | refine wp_labelQ ?_ | refine wp_exitQ ?_ | refine wp_retQ ?_); simp only [kQ, Nat.reduceEqDiff, reduceIte])
     | (refine wp_reg B ?_; simp (disch := omega) only [kW, Nat.reduceEqDiff, reduceIte, Nat.reduceLT, Nat.reduceLeDiff, Nat.reduceAdd, Nat.reduceSub, Nat.reduceMul, Nat.reducePow, Nat.reduceDiv, Nat.reduceMod, evIndexAddr, TD.agg, evFieldAddr, ty3, ty22, ty23, ty27, ty65, ty67, ty68, ty70, ty73, t3, t11, t12, t13, hK1, hL1, hM1, hKc, hTl])
     | refine wp_condT rfl ?_ | refine wp_condF rfl ?_)
    refine ⟨_, ?_, i + 1, _, hh, v, rfl, rfl, by omega, t3, t11, t12, rfl, by rw [hrs]; exact hv, hold, hborn, hnx⟩
    omega
  ·have e : n = i := by omega
   subst e
   repeat (first
    | refine wp_seqQ ?_ | refine wp_blockQ ?_ | refine wp_scopeQ ?_
    | ((first | refine wp_skipQ ?_ | refine wp_labelQ ?_ | refine wp_exitQ ?_ | refine wp_retQ ?_); simp only [kQ, Nat.reduceEqDiff, reduceIte])
    | (refine wp_reg B ?_; simp (disch := omega) only [kW, Nat.reduceEqDiff, reduceIte, Nat.reduceLT, Nat.reduceLeDiff, Nat.reduceAdd, Nat.reduceSub, Nat.reduceMul, Nat.reducePow, Nat.reduceDiv, Nat.reduceMod, evIndexAddr, TD.agg, evFieldAddr, ty3, ty22, ty23, ty27, ty65, ty67, ty68, ty70, ty73, t3])
    | refine wp_condT rfl ?_ | refine wp_condF rfl ?_)
   simp (disch := omega) only [kS, Nat.reduceEqDiff, reduceIte, Nat.reduceLT, Nat.reduceLeDiff, Nat.reduceAdd, Nat.reduceSub, Nat.reduceMul, Nat.reducePow, Nat.reduceDiv, Nat.reduceMod, evIndexAddr, TD.agg, evFieldAddr, ty3, ty22, ty23, ty27, ty65, ty67, ty68, ty70, ty73]
   exact ⟨v, rfl, hv, hold, hborn, hnx⟩
end Go.Proofs.Ytkffcclalncgdaa.Iv
end
section
set_option maxHeartbeats 8000000
set_option linter.unusedVariables false
set_option linter.unusedSimpArgs false
set_option maxRecDepth 10000
namespace Go.Proofs.Ytkffcclalncgdaa.Iv
open Go Go.Iv Go.RowKit Pg Ch
theorem baseK_lt {n : Nat} {β : Nat → Nat} {gens : List (Pm n)} {k : Nat} (h : k ∈ baseK β gens) : k < n := by
 unfold baseK at h
 rw [List.mem_filter, List.mem_range] at h
 exact h.1
theorem baseK_len {n : Nat} {β : Nat → Nat} {gens : List (Pm n)} : (baseK β gens).length ≤ n := by
 have := List.length_filter_le (fun k => decide (1 < (orbK β gens k).length)) (List.range n)
 rw [List.length_range] at this
 exact this
theorem clean_pcs : ∀ l : List Nat, allClean (l.map pc) = true := fun l => clean_i64 (l := l) fun x => (x : Int)
theorem take_succ_map {α β : Type} (f : α → β) (l : List α) (i : Nat) (x : α) (h : l[i]? = some x) : (l.take (i + 1)).map f = (l.take i).map f ++ [f x] := by rw [List.take_add_one, h]; simp
theorem SlAt.below {base : Nat} {te : TypeId} {h h' : Hp} {v : AV} {l : List AV} (k : SlAt base te h v l) (born : ∀ i, h.next ≤ i → h.m i = none) (hs : ∀ i, i < h.next → h'.m i = h.m i) : SlAt base te h' v l := k.mono fun i hi => hs i (Decidable.byContradiction fun c => hi (born i (by omega)))
theorem SlAt.base {b0 b1 : Nat} {te : TypeId} {h : Hp} {v : AV} {l : List AV} (k : SlAt b1 te h v l) (hb : b0 ≤ b1) : SlAt b0 te h v l := by
 rcases k with k | ⟨B, h1, h2, h3⟩
 ·exact .inl k
 ·exact .inr ⟨B, h1, h2, by omega⟩
theorem Base_sem {n : Nat} (hn : n ≤ 64) (hn0 : 0 < n) {y : Lay} {β : Nat → Nat} (hβ : ∀ k, k < n → β k < n) {G : AV} {gb : Nat → Option Nat} {gens : List (Pm n)} {st : St n} {h : Hp} (s : Stands y β G gb st h) (o : Of β gens st) :
    ∃ e h', SemCall Try.prog 16 [.ptr y.C 0] h e h' ∧ Hp.Le h h' ∧ ∃ v, e = .ret v ∧ SlAt h.next 3 h' v (((baseK β gens).map β).map pc) ∧ (∀ i, i < h.next → h'.m i = h.m i) ∧ (∀ i, h'.next ≤ i → h'.m i = none) ∧ h.next ≤ h'.next := by
 refine sem_heap tables.ok Try.func16 rfl rfl rfl rfl ?_
 obtain ⟨e1, h1, sc, le, w, rfl, hw, hold1, hborn1, hnx1⟩ := base_sem hn hn0 s o
 obtain ⟨call, B, c1, _⟩ := call_at tables.ok mixed [] sc le
 obtain ⟨bs, hbs⟩ : ∃ bs, bs = baseK β gens := ⟨_, rfl⟩
 obtain ⟨m, hm⟩ : ∃ m, m = bs.length := ⟨_, rfl⟩
 have hmn : m ≤ n := by rw [hm, hbs]; exact baseK_len
 have hlt : ∀ k ∈ bs, k < n := fun k hk => baseK_lt (hbs ▸ hk)
 rw [← hbs] at hw ⊢
 have hwl : evLen tab 65 w = some (.flat (.int .i64 (m : Int))) := by
  have := hw.len ty65
  rwa [List.length_map, ← hm] at this
 unfold Try.f16 bodyOf entry; simp only [Option.getD_some, List.length_cons, List.length_nil, Nat.reduceAdd, Nat.reduceSub]
 repeat (first
  | refine wp_seqQ ?_ | refine wp_blockQ ?_ | refine wp_scopeQ ?_
  | ((first | refine wp_skipQ ?_ | refine wp_labelQ ?_ | refine wp_exitQ ?_ | refine wp_retQ ?_); simp only [kQ, Nat.reduceEqDiff, reduceIte])
  | (refine wp_reg B ?_; simp (disch := omega) only [kW, Nat.reduceEqDiff, reduceIte, Nat.reduceLT, Nat.reduceLeDiff, Nat.reduceAdd, Nat.reduceSub, Nat.reduceMul, Nat.reducePow, Nat.reduceDiv, Nat.reduceMod, evIndexAddr, TD.agg, evFieldAddr, ty3, ty22, ty23, ty27, ty65, ty67, ty68, ty70, ty73, fn40, c1, hwl])
  | refine wp_condT rfl ?_ | refine wp_condF rfl ?_)
 refine wp_loopQ (fun f' z => ∃ (i : Nat) (tm : Nat → Option AV) (hh : Hp) (v : AV), z = ⟨tm, 22, hh, []⟩ ∧ f' = m - i ∧ i ≤ m ∧ tm 3 = some v ∧ tm 7 = some w ∧ tm 8 = some (.flat (.int .i64 (m : Int))) ∧ tm 9 = some (.flat (.int .i64 (i : Int))) ∧
  SlAt h1.next 3 hh v (((bs.take i).map β).map pc) ∧ (∀ j, j < h1.next → hh.m j = h1.m j) ∧ (∀ j, hh.next ≤ j → hh.m j = none) ∧ h1.next ≤ hh.next) m ?_ ?_
 ·exact ⟨0, _, _, _, rfl, rfl, Nat.zero_le _, rfl, rfl, rfl, rfl, .inl ⟨rfl, rfl⟩, fun _ _ => rfl, hborn1, Nat.le_refl _⟩
 ·rintro f' z ⟨i, tm, hh, v, rfl, rfl, hi, t3, t7, t8, t9, hv, hold, hborn, hnx⟩
  repeat (first
   | refine wp_seqQ ?_ | refine wp_blockQ ?_ | refine wp_scopeQ ?_
   | ((first | refine wp_skipQ ?_ | refine wp_labelQ ?_ | refine wp_exitQ ?_ | refine wp_retQ ?_); simp only [kQ, Nat.reduceEqDiff, reduceIte])
   | (refine wp_reg B ?_; simp (disch := omega) only [kW, Nat.reduceEqDiff, reduceIte, Nat.reduceLT, Nat.reduceLeDiff, Nat.reduceAdd, Nat.reduceSub, Nat.reduceMul, Nat.reducePow, Nat.reduceDiv, Nat.reduceMod, evIndexAddr, TD.agg, evFieldAddr, ty3, ty22, ty23, ty27, ty65, ty67, ty68, ty70, ty73, fn40, t3, t7, t8, t9])
   | refine wp_condT rfl ?_ | refine wp_condF rfl ?_)
  refine wp_if rfl (fun ilt => ?_) (fun ige => ?_)
  ·obtain ⟨k, hk⟩ : ∃ k, bs[i]? = some k := ⟨_, List.getElem?_eq_getElem (by omega)⟩
   have hkn := hlt k (List.mem_of_getElem? hk)
   have hL1 := s.link k hkn
   have lL := s.ltL hkn
   rw [← hold1 _ lL, ← hold _ (by omega)] at hL1
   have hts : ((bs.take (i + 1)).map β).map pc = ((bs.take i).map β).map pc ++ [pc (β k)] := by
    rw [List.map_map, List.map_map]; exact take_succ_map _ bs i k hk
   have hw1 := hw.below hborn1 hold
   rcases hw1 with ⟨e0, _⟩ | ⟨B1, hw0, hB1, hbB1⟩
   ·have := congrArg List.length e0
    simp only [List.length_map, List.length_nil] at this
    omega
   ·rw [hw0, List.length_map, ← hm] at t7
    have hkc : (bs.map fun k => AV.ptr (y.L k) 0)[i]? = some (.ptr (y.L k) 0) := by rw [List.getElem?_map, hk]; rfl
    have hl1 : (bs.map fun k => AV.ptr (y.L k) 0).length = m := by rw [List.length_map, hm]
    have lb1 := lt_next hborn hB1
    rcases hv with ⟨e0, rfl⟩ | ⟨B0, rfl, hB0, hbB⟩
    ·simp only [nilS] at t3
     repeat (first
      | refine wp_seqQ ?_ | refine wp_blockQ ?_ | refine wp_scopeQ ?_
      | ((first | refine wp_skipQ ?_ | refine wp_labelQ ?_ | refine wp_exitQ ?_ | refine wp_retQ ?_); simp only [kQ, Nat.reduceEqDiff, reduceIte])
      | (refine wp_reg B ?_; simp (disch := omega) only [kW, Nat.reduceEqDiff, reduceIte, Nat.reduceLT, Nat.reduceLeDiff, Nat.reduceAdd, Nat.reduceSub, Nat.reduceMul, Nat.reducePow, Nat.reduceDiv, Nat.reduceMod, evIndexAddr, TD.agg, evFieldAddr, ty3, ty22, ty23, ty27, ty65, ty67, ty68, ty70, ty73, fn40, t3, t7, t8, t9, hB1, hkc, hl1, hL1, pc, cleanI])
      | refine wp_condT rfl ?_ | refine wp_condF rfl ?_)
     refine ⟨_, ?_, i + 1, _, _, _, rfl, rfl, by omega, rfl, by rw [hw0, List.length_map, ← hm]; exact t7, t8, rfl, .inr ⟨hh.next + 1, ?_, ?_, by omega⟩, fun j hj => ?_, fun j hj => ?_, ?_⟩
     ·omega
     ·rw [hts, e0]; rfl
     ·dsimp only; rw [upd_eq, hts, e0]; rfl
     ·dsimp only; rw [upd_ne _ _ (by omega), upd_ne _ _ (by omega)]; exact hold j hj
     ·dsimp only at hj ⊢; rw [upd_ne _ _ (by omega), upd_ne _ _ (by omega)]; exact hborn j (by omega)
     ·dsimp only; omega
    ·have lb := lt_next hborn hB0
     have hll : (((bs.take i).map β).map pc).length = i := by simp only [List.length_map, List.length_take]; omega
     rw [hll] at t3
     repeat (first
      | refine wp_seqQ ?_ | refine wp_blockQ ?_ | refine wp_scopeQ ?_
      | ((first | refine wp_skipQ ?_ | refine wp_labelQ ?_ | refine wp_exitQ ?_ | refine wp_retQ ?_); simp only [kQ, Nat.reduceEqDiff, reduceIte])
      | (refine wp_reg B ?_; simp (disch := omega) only [kW, Nat.reduceEqDiff, reduceIte, Nat.reduceLT, Nat.reduceLeDiff, Nat.reduceAdd, Nat.reduceSub, Nat.reduceMul, Nat.reducePow, Nat.reduceDiv, Nat.reduceMod, evIndexAddr, TD.agg, evFieldAddr, ty3, ty22, ty23, ty27, ty65, ty67, ty68, ty70, ty73, fn40, t3, t7, t8, t9, hB1, hkc, hl1, hL1, pc, cleanI, hB0, hll, clean_pcs])
      | refine wp_condT rfl ?_ | refine wp_condF rfl ?_)
     refine ⟨_, ?_, i + 1, _, _, _, rfl, rfl, by omega, rfl, by rw [hw0, List.length_map, ← hm]; exact t7, t8, rfl, .inr ⟨hh.next + 1, ?_, ?_, by omega⟩, fun j hj => ?_, fun j hj => ?_, ?_⟩
     ·omega
     ·rw [hts, List.length_append, hll]; rfl
     ·dsimp only; rw [upd_eq, hts]; rfl
     ·dsimp only; rw [upd_ne _ _ (by omega), upd_ne _ _ (by omega), upd_ne _ _ (by omega)]; exact hold j hj
     ·dsimp only at hj ⊢; rw [upd_ne _ _ (by omega), upd_ne _ _ (by omega), upd_ne _ _ (by omega)]; exact hborn j (by omega)
     ·dsimp only; omega
  ·have e : m = i := by omega
   subst e
   rw [hm, List.take_of_length_le (Nat.le_refl _)] at hv
   repeat (first
    | refine wp_seqQ ?_ | refine wp_blockQ ?_ | refine wp_scopeQ ?_
    | ((first | refine wp_skipQ ?_ | refine wp_labelQ ?_ | refine wp_exitQ ?_ | refine wp_retQ ?_); simp only [kQ, Nat.reduceEqDiff, reduceIte])
    | (refine wp_reg B ?_; simp (disch := omega) only [kW, Nat.reduceEqDiff, reduceIte, Nat.reduceLT, Nat.reduceLeDiff, Nat.reduceAdd, Nat.reduceSub, Nat.reduceMul, Nat.reducePow, Nat.reduceDiv, Nat.reduceMod, evIndexAddr, TD.agg, evFieldAddr, ty3, ty22, ty23, ty27, ty65, ty67, ty68, ty70, ty73, fn40, t3])
    | refine wp_condT rfl ?_ | refine wp_condF rfl ?_)
   simp (disch := omega) only [kS, Nat.reduceEqDiff, reduceIte, Nat.reduceLT, Nat.reduceLeDiff, Nat.reduceAdd, Nat.reduceSub, Nat.reduceMul, Nat.reducePow, Nat.reduceDiv, Nat.reduceMod, evIndexAddr, TD.agg, evFieldAddr, ty3, ty22, ty23, ty27, ty65, ty67, ty68, ty70, ty73, fn40]
   exact ⟨v, rfl, hv.base hnx1, fun j hj => (hold j (by omega)).trans (hold1 j hj), hborn, by omega⟩
end Go.Proofs.Ytkffcclalncgdaa.Iv
end
section
set_option maxHeartbeats 8000000
set_option linter.unusedVariables false
set_option linter.unusedSimpArgs false
set_option maxRecDepth 10000
namespace Go.Proofs.Ytkffcclalncgdaa.Iv
open Go Go.Iv Go.RowKit Pg Ch
theorem top_nil (ρ : Ren) (a : Option Addr) (n c : Nat) (v : Value) (h : (AV.flat (.slice a n c)).rel ρ v) : AV.top.rel ρ v := by
 simp only [AV.rel] at h ⊢
 subst h; rfl
theorem all_clean : ∀ {l : List AV}, (∀ (i : Nat) (x : AV), l[i]? = some x → x.clean = true) → allClean l = true
 | [], _ => rfl
 | x :: l, h => by
  simp only [allClean]
  rw [h 0 x rfl, all_clean fun i y hy => h (i + 1) y (by simpa using hy)]; rfl
def blk (hb len : Nat) : Option Nat := if len = 0 then none else some (hb + 2 * len - 1)
def orbTm (tmB : Nat → Option AV) (hb : Nat) (yv : AV) (len : Nat) : Nat → Option AV :=
 if len = 0 then upd tmB 19 (some yv) else
  upd (upd (upd (upd (upd (upd (upd (upd (upd (upd (upd tmB 19 (some yv)) 20 (some (.tuple [.flat (.bool true), .top, .top]))) 21 (some (.flat (.bool true)))) 22 (some (.tuple [.top, .top]))) 23 (some .top)) 7 (some .top)) 24 (some .top)) 25 (some .top)) 26 (some .top)) 27 (some (.slice (hb + 2 * len - 1) 0 len (.toEnd 1)))) 6 (some (.slice (hb + 2 * len - 1) 0 len (.toEnd 1)))
theorem orbTm_keep (tmB : Nat → Option AV) (hb : Nat) (yv : AV) (len u : Nat) (h : u = 3 ∨ u = 5 ∨ u = 9 ∨ u = 10 ∨ u = 11) : orbTm tmB hb yv len u = tmB u := by
 unfold orbTm
 split <;> rcases h with h | h | h | h | h <;> subst h <;> rfl
theorem orbTm_it (tmB : Nat → Option AV) (hb : Nat) (yv : AV) (len : Nat) : orbTm tmB hb yv len 19 = some yv := by
 unfold orbTm
 split <;> rfl
theorem orbTm_o (tmB : Nat → Option AV) (hb : Nat) (yv : AV) (len : Nat) (h : tmB 6 = some nilS) : orbTm tmB hb yv len 6 = some (gv (blk hb len) len) := by
 unfold orbTm blk
 split
 ·exact h
 ·rfl
def orbHp (h1 : Hp) (mk : Nat) (vis : List Int) : Hp := ⟨h1.next + 2 * vis.length, if vis.length = 0 then h1.low else 0, upd (if vis.length = 0 then h1.m else upd h1.m (h1.next + 2 * vis.length - 1) (some (.cells (vis.map jc) 3 true))) mk none⟩
theorem orbTm_step (tmB : Nat → Option AV) (hb : Nat) (yv : AV) (len : Nat) (z : Int) (u x24 : AV) (lit : Nat) (hu : ∀ (ρ : Ren) (v : Value), u.rel ρ v → topV v = true) (h24 : ∀ (ρ : Ren) (v : Value), x24.rel ρ v → AV.top.rel ρ v) (t : Nat) :
    SlotLe (upd (upd (upd (upd (upd (upd (upd (upd (upd (upd (orbTm tmB hb yv len) 20 (some (.tuple [.flat (.bool true), .flat (.int .i64 z), u]))) 21 (some (.flat (.bool true)))) 22 (some (.tuple [.flat (.int .i64 z), u]))) 23 (some (.flat (.int .i64 z)))) 7 (some (.flat (.int .i64 z)))) 24 (some x24)) 25 (some (.flat (.int .i64 z)))) 26 (some (.slice lit 0 1 (.exact 1)))) 27 (some (.slice (hb + 2 * (len + 1) - 1) 0 (len + 1) (.toEnd 1)))) 6 (some (.slice (hb + 2 * (len + 1) - 1) 0 (len + 1) (.toEnd 1)))) (orbTm tmB hb yv (len + 1)) t := by
 conv => arg 2; unfold orbTm
 rw [if_neg (by omega)]
 refine le_upd (fun _ => True) (fun _ _ h => h) ?_ t trivial
 refine le_upd _ (fun _ _ h => h) ?_
 refine le_upd _ (fun ρ v h => top_sl ρ _ _ _ _ v h) ?_
 refine le_upd _ (fun ρ v h => top_int ρ _ _ v h) ?_
 refine le_upd _ h24 ?_
 refine le_upd _ (fun ρ v h => top_int ρ _ _ v h) ?_
 refine le_upd _ (fun ρ v h => top_int ρ _ _ v h) ?_
 refine le_upd _ (fun ρ v h => tup_en ρ _ _ (hu ρ) v h) ?_
 refine le_upd _ (fun _ _ h => h) ?_
 refine le_upd _ (fun ρ v h => tup_nx ρ _ _ (hu ρ) v h) ?_
 rintro w ⟨⟨⟨⟨⟨⟨⟨⟨⟨⟨_, h1⟩, h2⟩, h3⟩, h4⟩, h5⟩, h6⟩, h7⟩, h8⟩, h9⟩, h10⟩ ρ v
 unfold orbTm
 split
 ·exact id
 ·simp only [slo, upd_ne _ _ h1, upd_ne _ _ h2, upd_ne _ _ h3, upd_ne _ _ h4, upd_ne _ _ h5, upd_ne _ _ h6, upd_ne _ _ h7, upd_ne _ _ h8, upd_ne _ _ h9, upd_ne _ _ h10]
  exact id
theorem orbTm_top (tmB : Nat → Option AV) (hb : Nat) (a : Option Addr) (len : Nat) (P : Nat → Prop) : ∀ t, P t → SlotLe (orbTm tmB hb (.flat (.pointer a)) len) (orbTm tmB hb .top len) t := by
 unfold orbTm
 split
 ·exact le_upd _ (fun ρ v h => top_ptr ρ _ v h) fun u _ => SlotLe.refl _ _
 ·refine le_upd _ (fun _ _ h => h) ?_
  refine le_upd _ (fun _ _ h => h) ?_
  refine le_upd _ (fun _ _ h => h) ?_
  refine le_upd _ (fun _ _ h => h) ?_
  refine le_upd _ (fun _ _ h => h) ?_
  refine le_upd _ (fun _ _ h => h) ?_
  refine le_upd _ (fun _ _ h => h) ?_
  refine le_upd _ (fun _ _ h => h) ?_
  refine le_upd _ (fun _ _ h => h) ?_
  refine le_upd _ (fun _ _ h => h) ?_
  exact le_upd _ (fun ρ v h => top_ptr ρ _ v h) fun u _ => SlotLe.refl _ _
def OrbAt (base : Nat) (h : Hp) (v : AV) (ls : List (List Nat)) : Prop := ∃ rs : List AV, SlAt base 23 h v rs ∧ rs.length = ls.length ∧ ∀ (i : Nat) (l : List Nat), ls[i]? = some l → ∃ B, rs[i]? = some (.slice B 0 l.length (.toEnd 1)) ∧ h.m B = some (.cells (l.map pc) 3 true) ∧ base ≤ B
theorem Orbits_sem {n : Nat} (hn : n ≤ 64) (hn0 : 0 < n) {y : Lay} {β : Nat → Nat} (hβ : ∀ k, k < n → β k < n) {G : AV} {gb : Nat → Option Nat} {gens : List (Pm n)} {st : St n} {h : Hp} (s : Stands y β G gb st h) (o : Of β gens st) :
    ∃ e h', SemCall Try.prog 17 [.ptr y.C 0] h e h' ∧ Hp.Le h h' ∧ ∃ v, e = .ret v ∧ OrbAt h.next h' v ((baseK β gens).map (orbK β gens)) ∧ (∀ i, i < h.next → h'.m i = h.m i) ∧ (∀ i, h'.next ≤ i → h'.m i = none) ∧ h.next ≤ h'.next := by
 refine sem_heap tables.ok Try.func17 rfl rfl rfl rfl ?_
 obtain ⟨e1, h1, sc, le, w, rfl, hw, hold1, hborn1, hnx1⟩ := base_sem hn hn0 s o
 obtain ⟨call, B, c1, _⟩ := call_at tables.ok mixed [] sc le
 obtain ⟨bs, hbs⟩ : ∃ bs, bs = baseK β gens := ⟨_, rfl⟩
 obtain ⟨m, hm⟩ : ∃ m, m = bs.length := ⟨_, rfl⟩
 have hmn : m ≤ n := by rw [hm, hbs]; exact baseK_len
 have hlt : ∀ k ∈ bs, k < n ∧ 1 < (orbK β gens k).length := fun k hk => by
  rw [hbs] at hk
  refine ⟨baseK_lt hk, ?_⟩
  unfold baseK at hk
  rw [List.mem_filter, decide_eq_true_eq] at hk
  exact hk.2
 rw [← hbs] at hw ⊢
 have hwl : evLen tab 65 w = some (.flat (.int .i64 (m : Int))) := by
  have := hw.len ty65
  rwa [List.length_map, ← hm] at this
 unfold Try.f17 bodyOf entry; simp only [Option.getD_some, List.length_cons, List.length_nil, Nat.reduceAdd, Nat.reduceSub]
 repeat (first
  | refine wp_seqQ ?_ | refine wp_blockQ ?_ | refine wp_scopeQ ?_
  | ((first | refine wp_skipQ ?_ | refine wp_labelQ ?_ | refine wp_exitQ ?_ | refine wp_retQ ?_); simp only [kQ, Nat.reduceEqDiff, reduceIte])
  | (refine wp_reg B ?_; simp (disch := omega) only [kW, Nat.reduceEqDiff, reduceIte, Nat.reduceLT, Nat.reduceLeDiff, Nat.reduceAdd, Nat.reduceSub, Nat.reduceMul, Nat.reducePow, Nat.reduceDiv, Nat.reduceMod, evIndexAddr, TD.agg, evFieldAddr, ty3, ty22, ty23, ty27, ty65, ty67, ty68, ty70, ty73, fn40, fn41, c1, hwl])
  | refine wp_condT rfl ?_ | refine wp_condF rfl ?_)
 refine wp_loopQ (fun f' z => ∃ (i : Nat) (tm : Nat → Option AV) (hh : Hp) (v : AV), z = ⟨tm, 36, hh, []⟩ ∧ f' = m - i ∧ i ≤ m ∧ tm 3 = some v ∧ tm 9 = some w ∧ tm 10 = some (.flat (.int .i64 (m : Int))) ∧ tm 11 = some (.flat (.int .i64 (i : Int))) ∧
  OrbAt h1.next hh v ((bs.take i).map (orbK β gens)) ∧ (∀ j, j < h1.next → hh.m j = h1.m j) ∧ (∀ j, hh.next ≤ j → hh.m j = none) ∧ h1.next ≤ hh.next) m ?_ ?_
 ·exact ⟨0, _, _, _, rfl, rfl, Nat.zero_le _, rfl, rfl, rfl, rfl, ⟨[], .inl ⟨rfl, rfl⟩, rfl, fun i l hl => by simp at hl⟩, fun _ _ => rfl, hborn1, Nat.le_refl _⟩
 ·rintro f' z ⟨i, tm, hh, v, rfl, rfl, hi, t3, t9, t10, t11, hv, hold, hborn, hnx⟩
  repeat (first
   | refine wp_seqQ ?_ | refine wp_blockQ ?_ | refine wp_scopeQ ?_
   | ((first | refine wp_skipQ ?_ | refine wp_labelQ ?_ | refine wp_exitQ ?_ | refine wp_retQ ?_); simp only [kQ, Nat.reduceEqDiff, reduceIte])
   | (refine wp_reg B ?_; simp (disch := omega) only [kW, Nat.reduceEqDiff, reduceIte, Nat.reduceLT, Nat.reduceLeDiff, Nat.reduceAdd, Nat.reduceSub, Nat.reduceMul, Nat.reducePow, Nat.reduceDiv, Nat.reduceMod, evIndexAddr, TD.agg, evFieldAddr, ty3, ty22, ty23, ty27, ty65, ty67, ty68, ty70, ty73, fn40, fn41, t3, t9, t10, t11])
   | refine wp_condT rfl ?_ | refine wp_condF rfl ?_)
  refine wp_if rfl (fun ilt => ?_) (fun ige => ?_)
  ·obtain ⟨k, hk⟩ : ∃ k, bs[i]? = some k := ⟨_, List.getElem?_eq_getElem (by omega)⟩
   obtain ⟨hkn, hk1⟩ := hlt k (List.mem_of_getElem? hk)
   have hL1 := s.link k hkn
   have lL := s.ltL hkn
   have hM1 := s.map k hkn
   have lM := s.ltM hkn
   rw [← hold1 _ lL, ← hold _ (by omega)] at hL1
   rw [← hold1 _ lM, ← hold _ (by omega)] at hM1
   have hw1 := hw.below hborn1 hold
   rcases hw1 with ⟨e0, _⟩ | ⟨B1, hw0, hB1, hbB1⟩
   ·have := congrArg List.length e0
    simp only [List.length_map, List.length_nil] at this
    omega
   ·have t9' := t9
    rw [hw0, List.length_map, ← hm] at t9'
    have hkc : (bs.map fun k => AV.ptr (y.L k) 0)[i]? = some (.ptr (y.L k) 0) := by rw [List.getElem?_map, hk]; rfl
    have hl1 : (bs.map fun k => AV.ptr (y.L k) 0).length = m := by rw [List.length_map, hm]
    have lb1 := lt_next hborn hB1
    repeat (first
     | refine wp_seqQ ?_ | refine wp_blockQ ?_ | refine wp_scopeQ ?_
     | ((first | refine wp_skipQ ?_ | refine wp_labelQ ?_ | refine wp_exitQ ?_ | refine wp_retQ ?_); simp only [kQ, Nat.reduceEqDiff, reduceIte])
     | ((fail_if_success refine wp_reg (id := 5) B ?_); refine wp_reg B ?_; simp (disch := omega) only [kW, Nat.reduceEqDiff, reduceIte, Nat.reduceLT, Nat.reduceLeDiff, Nat.reduceAdd, Nat.reduceSub, Nat.reduceMul, Nat.reducePow, Nat.reduceDiv, Nat.reduceMod, evIndexAddr, TD.agg, evFieldAddr, ty3, ty22, ty23, ty27, ty65, ty67, ty68, ty70, ty73, fn40, fn41, t3, t9', t10, t11, hB1, hkc, hl1])
     | refine wp_condT rfl ?_ | refine wp_condF rfl ?_)
    refine wp_reg B ?_
    simp (disch := omega) only [kW, kG, Nat.reduceEqDiff, reduceIte, Nat.reduceLT, Nat.reduceLeDiff, Nat.reduceAdd, Nat.reduceSub, Nat.reduceMul, Nat.reducePow, Nat.reduceDiv, Nat.reduceMod, evIndexAddr, TD.agg, evFieldAddr, ty3, ty22, ty23, ty27, ty65, ty67, ty68, ty70, ty73, fn40, fn41, t3, t9', t10, t11]
    refine WP.tms (fun u => u = 3 ∨ u = 5 ∨ u = 6 ∨ u = 9 ∨ u = 10 ∨ u = 11) fun tm2 e2 => ?_
    have u3 : tm2 3 = some v := (e2 3 (by simp)).trans t3
    have u5 : tm2 5 = some (.ptr (y.L k) 0) := (e2 5 (by simp)).trans rfl
    have u6 : tm2 6 = some nilS := (e2 6 (by simp)).trans rfl
    have u9 : tm2 9 = some w := (e2 9 (by simp)).trans t9
    have u10 : tm2 10 = some (.flat (.int .i64 (m : Int))) := (e2 10 (by simp)).trans t10
    have u11 : tm2 11 = some (.flat (.int .i64 (i : Int))) := (e2 11 (by simp)).trans t11
    clear e2 t3 t9 t9' t10 t11 tm
    refine wp_seqQ ?_
    obtain ⟨mt, hmt⟩ : ∃ mt, mt = (st.T k).length := ⟨_, rfl⟩
    have hT1 : (List.map ent (st.T k)).length = mt := by rw [List.length_map, hmt]
    have hmt1 : 1 < mt := by rw [hmt, orbK_len o hkn]; exact hk1
    have hmtn : mt ≤ n := by
     have L := (s.key k hkn)
     have := Pg.nodup_len _ (List.range n) L.1 fun x hx => List.mem_range.2 (L.2 x hx)
     simp only [List.length_map, List.length_range] at this
     omega
    obtain ⟨tmB, htB⟩ : ∃ tmB, tmB = upd (upd (upd (upd tm2 15 (some (.ptr (y.L k) 0))) 16 (some (.ptr (y.L k) 0))) 17 (some (.ptr (y.L k) 2))) 18 (some (.map (y.M k))) := ⟨_, rfl⟩
    have hB6 : tmB 6 = some nilS := by rw [htB]; exact u6
    have lLh : y.L k < hh.next := by omega
    have lMh : y.M k < hh.next := by omega
    refine wp_range B (pre := [_, _, _, _]) (s0 := ⟨tmB, 36, hh, []⟩)
     (sE := ⟨upd (upd (orbTm tmB hh.next .top mt) 20 (some (.tuple [.flat (.bool false)]))) 21 (some (.flat (.bool false))), 36, ⟨hh.next + 2 * mt, 0, upd (upd hh.m (hh.next + 2 * mt - 1) (some (.perm (((st.T k).map ent).map (fun e => jc e.1)) 3 true))) (y.M k) none⟩, []⟩) (mr := y.M k) (l := (st.T k).map ent)
     (fun yy vis => ⟨orbTm tmB hh.next (.flat (.pointer (some ⟨yy, 0, none⟩))) vis.length, 36, orbHp hh (y.M k) vis, []⟩) rfl ?_ ty68 rfl ?_ ?_ ?_ ?_ ?_ ?_ ?_ ?_ ?_ ?_ ?_ ?_ ?_ ?_ ?_ ?_
    ·simp (disch := omega) only [kW, kG, Nat.reduceEqDiff, reduceIte, Nat.reduceLT, Nat.reduceLeDiff, Nat.reduceAdd, Nat.reduceSub, Nat.reduceMul, Nat.reducePow, Nat.reduceDiv, Nat.reduceMod, evIndexAddr, TD.agg, evFieldAddr, ty3, ty22, ty23, ty27, ty65, ty67, ty68, ty70, ty73, fn40, fn41, u3, u5, u6, hL1, hM1, htB]
    ·rw [htB]; rfl
    ·exact hM1
    ·exact lMh
    ·intro yy; rfl
    ·intro yy vis; exact orbTm_it _ _ _ _
    ·intro yy vis; rfl
    ·refine ⟨?_, ?_, ?_, ?_, ?_, ?_⟩ <;> (show _ < 36; decide)
    ·decide
    ·intro yy vis z u hz hnd hsub hnz
     have hlt : vis.length < mt := by
      have := nodup_le (vis ++ [z]) _ (by
       rw [List.nodup_append]
       exact ⟨hnd, by simp, fun a ha b hb => by simp only [List.mem_singleton] at hb; subst hb; intro e; subst e; exact hnz ha⟩) (fun x hx => by
       rcases List.mem_append.1 hx with hx | hx
       ·exact hsub x hx
       ·simp only [List.mem_singleton] at hx; subst hx; exact List.mem_map.2 ⟨_, hz, rfl⟩)
      simp only [List.length_append, List.length_singleton, List.length_map] at this
      omega
     have b6 := orbTm_o tmB hh.next (.flat (.pointer (some ⟨yy, 0, none⟩))) vis.length hB6
     refine WP.ex ?_
     rcases Nat.eq_zero_or_pos vis.length with h0 | h0
     ·have hv0 : vis = [] := List.eq_nil_of_length_eq_zero h0
      subst hv0
      simp only [blk, List.length_nil, if_true, gv, nilS] at b6
      unfold fillS orbHp
      dsimp only
      simp only [List.length_nil, if_true, Nat.mul_zero, Nat.add_zero]
      refine wp_reg B ?_
      simp (disch := omega) only [kW, kG, Nat.reduceEqDiff, reduceIte, Nat.reduceLT, Nat.reduceLeDiff, Nat.reduceAdd, Nat.reduceSub, Nat.reduceMul, Nat.reducePow, Nat.reduceDiv, Nat.reduceMod, evIndexAddr, TD.agg, evFieldAddr, ty3, ty22, ty23, ty27, ty65, ty67, ty68, ty70, ty73, fn40, fn41, b6, cleanI]
      first | refine ⟨rfl, ?_⟩ | skip
      refine ⟨fun t => ?_, rfl, rfl, ?_, ?_⟩
      ·exact orbTm_step tmB hh.next _ 0 z u _ _ (fun ρ v => ent_top hz ρ v) (fun ρ v h => top_nil ρ _ _ _ v h) t
      ·rfl
      ·intro a o' ha
       have ha : upd (upd hh.m (hh.next + 1) (some (.cells [jc z] 3 true))) (y.M k) none a = some o' := ha
       dsimp only
       by_cases e1 : a = y.M k
       ·subst e1; rw [upd_eq] at ha; cases ha
       ·rw [upd_ne _ _ e1] at ha
        by_cases e2 : a = hh.next + 1
        ·subst e2
         rw [upd_eq] at ha ⊢
         simp only [Option.some.injEq] at ha
         subst ha
         exact ⟨_, rfl, fun _ _ _ h => h⟩
        ·rw [upd_ne _ _ e2] at ha
         have := lt_next hborn ha
         exact ⟨o', by rw [upd_ne _ _ e2, upd_ne _ _ (by omega), upd_ne _ _ e1]; exact ha, fun _ _ _ h => h⟩
     ·have hne : ¬ vis.length = 0 := by omega
      obtain ⟨b0, hb0⟩ : ∃ b0, b0 = hh.next + 2 * vis.length - 1 := ⟨_, rfl⟩
      simp only [blk, if_neg hne, gv, ← hb0] at b6
      unfold fillS orbHp
      dsimp only
      simp only [if_neg hne, ← hb0]
      have hbM : b0 ≠ y.M k := by omega
      have hll : (vis.map jc).length = vis.length := by rw [List.length_map]
      have hcl : allClean (vis.map jc) = true := clean_i64 (l := vis) fun x => x
      refine wp_reg B ?_
      simp (disch := omega) only [kW, kG, Nat.reduceEqDiff, reduceIte, Nat.reduceLT, Nat.reduceLeDiff, Nat.reduceAdd, Nat.reduceSub, Nat.reduceMul, Nat.reducePow, Nat.reduceDiv, Nat.reduceMod, evIndexAddr, TD.agg, evFieldAddr, ty3, ty22, ty23, ty27, ty65, ty67, ty68, ty70, ty73, fn40, fn41, b6, cleanI, hbM, Ne.symm hbM, hll, hcl]
      have e1 : hh.next + 2 * vis.length + 1 = hh.next + 2 * (vis.length + 1) - 1 := by omega
      simp only [e1]
      first | refine ⟨rfl, ?_⟩ | skip
      refine ⟨fun t => ?_, rfl, rfl, ?_, ?_⟩
      ·exact orbTm_step tmB hh.next _ vis.length z u _ _ (fun ρ v => ent_top hz ρ v) (fun ρ v h => top_sl ρ _ _ _ _ v h) t
      ·simp only [List.length_append, List.length_singleton]; omega
      ·intro a o' ha
       have hne2 : ¬ (vis ++ [z]).length = 0 := by simp
       dsimp only at ha ⊢
       by_cases e3 : a = y.M k
       ·subst e3; rw [upd_eq] at ha; cases ha
       ·rw [upd_ne _ _ e3] at ha
        by_cases e2 : a = hh.next + 2 * (vis.length + 1) - 1
        ·subst e2
         rw [upd_eq] at ha ⊢
         simp only [Option.some.injEq] at ha
         subst ha
         exact ⟨_, rfl, fun ρ n' x hx => by simpa only [List.map_append, List.map_cons, List.map_nil, jc] using hx⟩
        ·rw [upd_ne _ _ e2] at ha
         have := lt_next hborn ha
         exact ⟨o', by rw [upd_ne _ _ e2, upd_ne _ _ (by omega), upd_ne _ _ (by omega), upd_ne _ _ e3, upd_ne _ _ (by omega)]; exact ha, fun _ _ _ h => h⟩
    ·intro yy vis hnd hsub
     have := nodup_le vis _ hnd hsub
     simp only [List.length_map] at this hT1
     show hh.next + 2 * vis.length ≤ hh.next + 2 * mt
     omega
    ·intro yy vis hp
     have hvl : vis.length = mt := by rw [hp.length_eq, List.length_map, hT1]
     have hne : ¬ vis.length = 0 := by omega
     refine ⟨fun t => ?_, rfl, rfl, ?_, ?_⟩
     ·have := le_upd (tm := orbTm tmB hh.next (.flat (.pointer (some ⟨yy, 0, none⟩))) mt) (tm' := orbTm tmB hh.next .top mt) (t := 20) (a := .tuple [.flat (.bool false)]) (b := .tuple [.flat (.bool false)]) (fun _ => True) (fun _ _ h => h) (orbTm_top _ _ _ _ _)
      have := le_upd (t := 21) (a := .flat (.bool false)) (b := .flat (.bool false)) (fun _ => True) (fun _ _ h => h) (fun u _ => this u trivial) t trivial
      rw [← hvl] at this ⊢
      exact this
     ·show hh.next + 2 * mt = hh.next + 2 * vis.length
      omega
     ·intro a o' ha
      simp only [endS, orbHp, if_neg hne] at ha ⊢
      rw [hvl]
      by_cases e1 : a = y.M k
      ·subst e1; rw [upd_eq] at ha; cases ha
      ·rw [upd_ne _ _ e1] at ha ⊢
       by_cases e2 : a = hh.next + 2 * mt - 1
       ·subst e2
        rw [upd_eq] at ha ⊢
        refine ⟨_, rfl, ?_⟩
        simp only [Option.some.injEq] at ha
        subst ha
        intro ρ n' x hx
        simp only [AO.rel] at hx ⊢
        have hpj := hp.map jc
        rw [List.map_map] at hpj
        exact ⟨_, hpj, hx⟩
       ·rw [upd_ne _ _ e2] at ha ⊢
        exact ⟨o', ha, fun _ _ _ h => h⟩
    ·show upd _ (y.M k) none (y.M k) = none
     rw [upd_eq]
    ·exact Nat.le_refl _
    ·show hh.next ≤ hh.next + 2 * mt
     omega
    ·intro _
     refine ⟨by show hh.next ≤ hh.next + 2 * mt; omega, Nat.zero_le _, fun a ha => absurd ha (Nat.not_lt_zero _), fun hb a ha => ?_⟩
     have ha : hh.next + 2 * mt ≤ a := ha
     show upd (upd (upd hh.m (hh.next + 2 * mt - 1) _) (y.M k) none) (y.M k) _ a = none
     rw [upd_ne _ _ (by omega), upd_ne _ _ (by omega), upd_ne _ _ (by omega)]
     exact hborn a (by omega)
    ·simp only [thenQ_normal]
     refine WP.tms (fun u => u = 3 ∨ u = 5 ∨ u = 6 ∨ u = 9 ∨ u = 10 ∨ u = 11) fun tm3 e3 => ?_
     have keep : ∀ u, u = 3 ∨ u = 5 ∨ u = 9 ∨ u = 10 ∨ u = 11 → tm3 u = tm2 u := fun u hu => by
      rw [e3 u (by omega), upd_ne _ _ (by omega), upd_ne _ _ (by omega), orbTm_keep _ _ _ _ _ (by omega), htB, upd_ne _ _ (by omega), upd_ne _ _ (by omega), upd_ne _ _ (by omega), upd_ne _ _ (by omega)]
     have v3 := (keep 3 (by omega)).trans u3
     have v5 := (keep 5 (by omega)).trans u5
     have v9 := (keep 9 (by omega)).trans u9
     have v10 := (keep 10 (by omega)).trans u10
     have v11 := (keep 11 (by omega)).trans u11
     obtain ⟨b0, hb0⟩ : ∃ b0, b0 = hh.next + 2 * mt - 1 := ⟨_, rfl⟩
     have v6 : tm3 6 = some (.slice b0 0 mt (.toEnd 1)) := by
      rw [e3 6 (by omega), upd_ne _ _ (by omega), upd_ne _ _ (by omega), orbTm_o _ _ _ _ hB6]
      simp only [blk, gv, if_neg (show ¬ mt = 0 by omega), hb0]
     clear e3 keep u3 u5 u6 u9 u10 u11 htB hB6 tmB tm2
     rw [← hb0]
     refine WP.name fun h3 hh3 => ?_
     obtain ⟨Lk, hLk⟩ : ∃ Lk, Lk = ((st.T k).map ent).map (·.1) := ⟨_, rfl⟩
     have hl3 : mt = Lk.length := by rw [hLk, List.length_map, hT1]
     have hbM : b0 ≠ y.M k := by omega
     have hg3 : h3.m b0 = some (.perm (Lk.map jc) 3 true) := by
      rw [hh3, hLk]
      show upd (upd (upd hh.m b0 _) (y.M k) none) (y.M k) _ b0 = _
      rw [upd_ne _ _ hbM, upd_ne _ _ hbM, upd_eq]
      simp only [List.map_map]; rfl
     have n3 : h3.next = hh.next + 2 * mt := by rw [hh3]
     have old3 : ∀ a, a < hh.next → h3.m a = hh.m a := fun a ha => by
      rw [hh3]
      show upd (upd (upd hh.m b0 _) (y.M k) none) (y.M k) _ a = _
      by_cases e : a = y.M k
      ·subst e; rw [upd_eq]; exact hM1.symm
      ·rw [upd_ne _ _ e, upd_ne _ _ e, upd_ne _ _ (by omega)]
     have born3 : ∀ a, h3.next ≤ a → h3.m a = none := fun a ha => by
      rw [n3] at ha
      rw [hh3]
      show upd (upd (upd hh.m b0 _) (y.M k) none) (y.M k) _ a = _
      rw [upd_ne _ _ (by omega), upd_ne _ _ (by omega), upd_ne _ _ (by omega)]
      exact hborn a (by omega)
     have hbk : srtI Lk = (keys (st.T k)).map fun (x : Nat) => (x : Int) := by rw [hLk]; exact srt_keys (s.key k hkn).1 (s.key k hkn).2
     obtain ⟨h4, hh4⟩ : ∃ h4, h3.put b0 (some (.cells ((srtI Lk).map jc) 3 true)) = some h4 := ⟨_, put_some (by omega)⟩
     have sc := sort_sem (c := .toEnd 1) hg3 hl3 (by omega) hh4
     have le4 := Hp.put_le hh4
     rw [hbk, map_jc, orbK_keys o hkn] at hh4
     obtain ⟨_, n4, _, _, g4⟩ := Hp.put_get hh4
     simp only [Hp.get] at g4
     have lk9 : (orbK β gens k).length = mt := by rw [← orbK_len o hkn, hmt]
     have b4 : h4.m b0 = some (.cells ((orbK β gens k).map pc) 3 true) := by rw [g4, if_pos rfl]
     have old4 : ∀ a, a < hh.next → h4.m a = hh.m a := fun a ha => by rw [g4, if_neg (by omega)]; exact old3 a ha
     have born4 : ∀ a, h4.next ≤ a → h4.m a = none := fun a ha => by rw [g4, if_neg (by omega)]; exact born3 a (by omega)
     obtain ⟨call, B, c1, _⟩ := call_at tables.ok mixed [] sc le4
     clear hh3 hh4 g4 old3 born3 hg3 sc le4
     obtain ⟨rs, r1, r2, r3⟩ := hv
     have hrl : rs.length = i := by rw [r2, List.length_map, List.length_take]; omega
     have hts : (bs.take (i + 1)).map (orbK β gens) = (bs.take i).map (orbK β gens) ++ [orbK β gens k] := take_succ_map _ bs i k hk
     rcases r1 with ⟨e0, rfl⟩ | ⟨B0, rfl, hB0', hbB⟩
     ·simp only [nilS] at v3
      have hi0 : i = 0 := by rw [← hrl, e0]; rfl
      repeat (first
       | refine wp_seqQ ?_ | refine wp_blockQ ?_ | refine wp_scopeQ ?_
       | ((first | refine wp_skipQ ?_ | refine wp_labelQ ?_ | refine wp_exitQ ?_ | refine wp_retQ ?_); simp only [kQ, Nat.reduceEqDiff, reduceIte])
       | (refine wp_reg B ?_; simp (disch := omega) only [kW, Nat.reduceEqDiff, reduceIte, Nat.reduceLT, Nat.reduceLeDiff, Nat.reduceAdd, Nat.reduceSub, Nat.reduceMul, Nat.reducePow, Nat.reduceDiv, Nat.reduceMod, evIndexAddr, TD.agg, evFieldAddr, ty3, ty22, ty23, ty27, ty65, ty67, ty68, ty70, ty73, fn40, fn41, v3, v6, v9, v10, v11, c1, cleanN])
       | refine wp_condT rfl ?_ | refine wp_condF rfl ?_)
      refine ⟨_, ?_, i + 1, _, _, _, rfl, rfl, by omega, rfl, v9, v10, rfl, ⟨rs ++ [.slice b0 0 mt (.toEnd 1)], .inr ⟨h4.next + 1, by rw [List.length_append, hrl, hi0]; rfl, ?_, by omega⟩, ?_, fun a l hl => ?_⟩, fun j hj => ?_, fun j hj => ?_, ?_⟩
      ·omega
      ·dsimp only; rw [upd_eq]; rw [e0]; rfl
      ·rw [List.length_append, r2, hts, List.length_append]; rfl
      ·rw [hts] at hl
       by_cases ea : a < i
       ·rw [List.getElem?_append_left (by rw [List.length_map, List.length_take]; omega)] at hl
        obtain ⟨B2, q1, q2, q3⟩ := r3 a l hl
        have lb2 := lt_next hborn q2

        refine ⟨B2, by rw [List.getElem?_append_left (by omega)]; exact q1, ?_, q3⟩
        dsimp only
        rw [upd_ne _ _ (by omega), upd_ne _ _ (by omega), old4 _ lb2]; exact q2
       ·have e2 : a = i := by
          have := (List.getElem?_eq_some_iff.1 hl).1
          simp only [List.length_append, List.length_map, List.length_take, List.length_singleton] at this
          omega
        subst e2
        rw [List.getElem?_append_right (by rw [List.length_map, List.length_take]; omega)] at hl
        have e0 : a - (List.map (orbK β gens) (List.take a bs)).length = 0 := by rw [List.length_map, List.length_take]; omega
        rw [e0] at hl
        simp only [List.getElem?_cons_zero, Option.some.injEq] at hl
        subst hl
        refine ⟨b0, by rw [List.getElem?_append_right (by omega), hrl, Nat.sub_self, lk9]; rfl, ?_, by omega⟩
        dsimp only
        rw [upd_ne _ _ (by omega), upd_ne _ _ (by omega)]; exact b4
      ·dsimp only; rw [upd_ne _ _ (by omega), upd_ne _ _ (by omega), old4 _ (by omega)]; exact hold j hj
      ·dsimp only at hj ⊢; rw [upd_ne _ _ (by omega), upd_ne _ _ (by omega)]; exact born4 j (by omega)
      ·dsimp only; omega
     ·have lb0' := lt_next hborn hB0'
      have hB0 := (old4 B0 lb0').trans hB0'
      have lb0 : B0 < h4.next := by omega
      have hcl : allClean rs = true := all_clean fun a x hx => by
       have ha := (List.getElem?_eq_some_iff.1 hx).1
       obtain ⟨B2, q1, _⟩ := r3 a _ (List.getElem?_eq_getElem (by omega))
       rw [hx] at q1
       simp only [Option.some.injEq] at q1
       subst q1; rfl
      rw [hrl] at v3
      have nb0 : B0 ≠ b0 := by omega
      repeat (first
       | refine wp_seqQ ?_ | refine wp_blockQ ?_ | refine wp_scopeQ ?_
       | ((first | refine wp_skipQ ?_ | refine wp_labelQ ?_ | refine wp_exitQ ?_ | refine wp_retQ ?_); simp only [kQ, Nat.reduceEqDiff, reduceIte])
       | (refine wp_reg B ?_; simp (disch := omega) only [kW, Nat.reduceEqDiff, reduceIte, Nat.reduceLT, Nat.reduceLeDiff, Nat.reduceAdd, Nat.reduceSub, Nat.reduceMul, Nat.reducePow, Nat.reduceDiv, Nat.reduceMod, evIndexAddr, TD.agg, evFieldAddr, ty3, ty22, ty23, ty27, ty65, ty67, ty68, ty70, ty73, fn40, fn41, v3, v6, v9, v10, v11, c1, cleanN, hB0, hrl, hcl])
       | refine wp_condT rfl ?_ | refine wp_condF rfl ?_)
      refine ⟨_, ?_, i + 1, _, _, _, rfl, rfl, by omega, rfl, v9, v10, rfl, ⟨rs ++ [.slice b0 0 mt (.toEnd 1)], .inr ⟨h4.next + 1, by rw [List.length_append, hrl]; rfl, ?_, by omega⟩, ?_, fun a l hl => ?_⟩, fun j hj => ?_, fun j hj => ?_, ?_⟩
      ·omega
      ·dsimp only; rw [upd_eq]
      ·rw [List.length_append, r2, hts, List.length_append]; rfl
      ·rw [hts] at hl
       by_cases ea : a < i
       ·rw [List.getElem?_append_left (by rw [List.length_map, List.length_take]; omega)] at hl
        obtain ⟨B2, q1, q2, q3⟩ := r3 a l hl
        have lb2 := lt_next hborn q2
        have nB2 : B2 ≠ B0 := neT q2 hB0' (by decide)
        refine ⟨B2, by rw [List.getElem?_append_left (by omega)]; exact q1, ?_, q3⟩
        dsimp only
        rw [upd_ne _ _ (by omega), upd_ne _ _ (by omega), upd_ne _ _ (by omega), old4 _ lb2]; exact q2
       ·have e2 : a = i := by
          have := (List.getElem?_eq_some_iff.1 hl).1
          simp only [List.length_append, List.length_map, List.length_take, List.length_singleton] at this
          omega
        subst e2
        rw [List.getElem?_append_right (by rw [List.length_map, List.length_take]; omega)] at hl
        have e0 : a - (List.map (orbK β gens) (List.take a bs)).length = 0 := by rw [List.length_map, List.length_take]; omega
        rw [e0] at hl
        simp only [List.getElem?_cons_zero, Option.some.injEq] at hl
        subst hl
        refine ⟨b0, by rw [List.getElem?_append_right (by omega), hrl, Nat.sub_self, lk9]; rfl, ?_, by omega⟩
        dsimp only
        rw [upd_ne _ _ (by omega), upd_ne _ _ (by omega), upd_ne _ _ (by omega)]; exact b4
      ·dsimp only; rw [upd_ne _ _ (by omega), upd_ne _ _ (by omega), upd_ne _ _ (by omega), old4 _ (by omega)]; exact hold j hj
      ·dsimp only at hj ⊢; rw [upd_ne _ _ (by omega), upd_ne _ _ (by omega), upd_ne _ _ (by omega)]; exact born4 j (by omega)
      ·dsimp only; omega
  ·have e : m = i := by omega
   subst e
   rw [hm, List.take_of_length_le (Nat.le_refl _)] at hv
   repeat (first
    | refine wp_seqQ ?_ | refine wp_blockQ ?_ | refine wp_scopeQ ?_
    | ((first | refine wp_skipQ ?_ | refine wp_labelQ ?_ | refine wp_exitQ ?_ | refine wp_retQ ?_); simp only [kQ, Nat.reduceEqDiff, reduceIte])
    | (refine wp_reg B ?_; simp (disch := omega) only [kW, Nat.reduceEqDiff, reduceIte, Nat.reduceLT, Nat.reduceLeDiff, Nat.reduceAdd, Nat.reduceSub, Nat.reduceMul, Nat.reducePow, Nat.reduceDiv, Nat.reduceMod, evIndexAddr, TD.agg, evFieldAddr, ty3, ty22, ty23, ty27, ty65, ty67, ty68, ty70, ty73, fn40, fn41, t3])
    | refine wp_condT rfl ?_ | refine wp_condF rfl ?_)
   simp (disch := omega) only [kS, Nat.reduceEqDiff, reduceIte, Nat.reduceLT, Nat.reduceLeDiff, Nat.reduceAdd, Nat.reduceSub, Nat.reduceMul, Nat.reducePow, Nat.reduceDiv, Nat.reduceMod, evIndexAddr, TD.agg, evFieldAddr, ty3, ty22, ty23, ty27, ty65, ty67, ty68, ty70, ty73, fn40, fn41]
   obtain ⟨rs, r1, r2, r3⟩ := hv
   exact ⟨v, rfl, ⟨rs, r1.base hnx1, r2, fun i l hl => by obtain ⟨B, q1, q2, q3⟩ := r3 i l hl; exact ⟨B, q1, q2, by omega⟩⟩, fun j hj => (hold j (by omega)).trans (hold1 j hj), hborn, by omega⟩
end Go.Proofs.Ytkffcclalncgdaa.Iv
end
