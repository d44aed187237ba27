/- The faster evaluator, proved to answer as the first one does. -/
import Derived.Test.YtbkhakainjlkeaaGreatEvB
set_option linter.unusedVariables false
set_option linter.unusedSimpArgs false
namespace Go.Ev
open Go
section
/-! ### trees -/
theorem Tr.getF_eq : ∀ (t : Tr AO) (k : Nat), t.getF k = t.get k
  | .nil, k => by cases k <;> rfl
  | .node v l r, 0 => rfl
  | .node v l r, m + 1 => by
    show getM (Nat.mod m 2) m l.getF r.getF = cond (Nat.beq (m % 2) 0) (l.get (m / 2)) (r.get (m / 2))
    have e : Nat.mod m 2 = m % 2 := rfl
    rw [e]
    rcases Nat.mod_two_eq_zero_or_one m with h | h <;> rw [h]
    · exact Tr.getF_eq l _
    · exact Tr.getF_eq r _
theorem Tr.path_get {α : Type} : ∀ (f k : Nat) (x : Option α), k < f → ∀ j, (Tr.path f k x).get j = if j = k then x else none
  | 0, k, x, h, j => by omega
  | f + 1, 0, x, h, j => by
    cases j with
    | zero => rfl
    | succ j => simp [Tr.path, Tr.get, Tr.get_nil]
  | f + 1, m + 1, x, h, j => by
    have e : Nat.mod m 2 = m % 2 := rfl
    have e2 : Nat.div m 2 = m / 2 := rfl
    have ih := Tr.path_get f (m / 2) x (by omega)
    simp only [Tr.path, e, e2]
    rcases Nat.mod_two_eq_zero_or_one m with hm | hm <;> rw [hm] <;> dsimp only
    · cases j with
      | zero => simp [Tr.get]
      | succ j =>
        rcases Nat.mod_two_eq_zero_or_one j with hj | hj
        · simp only [Tr.get, hj, Nat.beq_refl, cond_true, ih]
          by_cases e : j = m
          · simp [e]
          · rw [if_neg (by omega), if_neg (by omega)]
        · have : Nat.beq 1 0 = false := rfl
          simp only [Tr.get, hj, this, cond_false, Tr.get_nil]
          rw [if_neg (by omega)]
    · cases j with
      | zero => simp [Tr.get]
      | succ j =>
        have h1 : Nat.beq 1 0 = false := rfl
        rcases Nat.mod_two_eq_zero_or_one j with hj | hj
        · simp only [Tr.get, hj, Nat.beq_refl, cond_true, Tr.get_nil]
          rw [if_neg (by omega)]
        · simp only [Tr.get, hj, h1, cond_false, ih]
          by_cases e : j = m
          · simp [e]
          · rw [if_neg (by omega), if_neg (by omega)]
theorem Tr.get_put {α : Type} : ∀ (t : Tr α) (k : Nat) (x : Option α) (j : Nat), (t.put k x).get j = if j = k then x else t.get j
  | .nil, k, x, j => by rw [Tr.put, Tr.path_get _ _ _ (by omega), Tr.get_nil]
  | .node v l r, 0, x, j => by
    cases j with
    | zero => rfl
    | succ j => simp [Tr.put, Tr.get]
  | .node v l r, m + 1, x, j => by
    have e : Nat.mod m 2 = m % 2 := rfl
    have e2 : Nat.div m 2 = m / 2 := rfl
    have h1 : Nat.beq 1 0 = false := rfl
    simp only [Tr.put, e, e2]
    rcases Nat.mod_two_eq_zero_or_one m with hm | hm <;> rw [hm] <;> dsimp only
    · cases j with
      | zero => simp [Tr.get]
      | succ j =>
        rcases Nat.mod_two_eq_zero_or_one j with hj | hj
        · simp only [Tr.get, hj, Nat.beq_refl, cond_true, Tr.get_put l]
          by_cases e : j = m
          · simp [e]
          · rw [if_neg (by omega), if_neg (by omega)]
        · simp only [Tr.get, hj, h1, cond_false]
          rw [if_neg (by omega)]
    · cases j with
      | zero => simp [Tr.get]
      | succ j =>
        rcases Nat.mod_two_eq_zero_or_one j with hj | hj
        · simp only [Tr.get, hj, Nat.beq_refl, cond_true]
          rw [if_neg (by omega)]
        · simp only [Tr.get, hj, h1, cond_false, Tr.get_put r]
          by_cases e : j = m
          · simp [e]
          · rw [if_neg (by omega), if_neg (by omega)]
theorem Tr.putF_eq : ∀ (t : Tr AO) (k : Nat) (x : Option AO), t.putF k x = t.put k x
  | .nil, k, x => rfl
  | .node v l r, 0, x => rfl
  | .node v l r, m + 1, x => by
    show putM (Nat.mod m 2) m v l r l.putF r.putF x = _
    rw [Tr.put]
    cases h : Nat.mod m 2 with
    | zero => show Tr.node v (l.putF (Nat.div m 2) x) r = _; rw [Tr.putF_eq l]
    | succ n => show Tr.node v l (r.putF (Nat.div m 2) x) = _; rw [Tr.putF_eq r]

theorem FH.get_eq (h : FH) (b : Nat) : h.get b = h.abs.get b := Tr.getF_eq _ _
theorem FH.new_abs (h : FH) (o : AO) : h.abs.new o = some (FH.abs ⟨Nat.succ h.next, h.low, h.m.putF h.next (some o)⟩) := by
  simp only [Hp.new, FH.abs, Option.some.injEq, Hp.mk.injEq, true_and, Nat.succ_eq_add_one]
  funext j
  rw [Tr.putF_eq, Tr.get_put]
  rfl
theorem FH.putK_some {h : FH} {i : Nat} {o : Option AO} {c : FH → R'} {r : AEnd × FH} (k : h.putK i o c = some r) : ∃ h', h.abs.put i o = some h'.abs ∧ c h' = some r := by
  unfold FH.putK at k
  cases hn : Nat.blt i h.next with
  | false => rw [hn] at k; cases k
  | true =>
    rw [hn] at k
    dsimp only at k
    have e : ∀ l, h.abs.put i o = some ⟨h.next, l, upd h.m.get i o⟩ → h.abs.put i o = some (FH.abs ⟨h.next, l, h.m.putF i o⟩) := fun l hl => by
      rw [hl]
      simp only [FH.abs, Option.some.injEq, Hp.mk.injEq, true_and]
      funext j
      rw [Tr.putF_eq, Tr.get_put]
      rfl
    cases hl : Nat.blt i h.low with
    | false =>
      rw [hl] at k
      exact ⟨_, e h.low (by simp [Hp.put, FH.abs, hn, hl]), k⟩
    | true =>
      rw [hl] at k
      exact ⟨_, e i (by simp [Hp.put, FH.abs, hn, hl]), k⟩

/-! ### registers: sixty-four -/
theorem acc_get (r : RF) : ∀ k, k < 64 → (acc k).get r = r.toList.getD k dflt
  | 0, _ => rfl
  | 1, _ => rfl
  | 2, _ => rfl
  | 3, _ => rfl
  | 4, _ => rfl
  | 5, _ => rfl
  | 6, _ => rfl
  | 7, _ => rfl
  | 8, _ => rfl
  | 9, _ => rfl
  | 10, _ => rfl
  | 11, _ => rfl
  | 12, _ => rfl
  | 13, _ => rfl
  | 14, _ => rfl
  | 15, _ => rfl
  | 16, _ => rfl
  | 17, _ => rfl
  | 18, _ => rfl
  | 19, _ => rfl
  | 20, _ => rfl
  | 21, _ => rfl
  | 22, _ => rfl
  | 23, _ => rfl
  | 24, _ => rfl
  | 25, _ => rfl
  | 26, _ => rfl
  | 27, _ => rfl
  | 28, _ => rfl
  | 29, _ => rfl
  | 30, _ => rfl
  | 31, _ => rfl
  | 32, _ => rfl
  | 33, _ => rfl
  | 34, _ => rfl
  | 35, _ => rfl
  | 36, _ => rfl
  | 37, _ => rfl
  | 38, _ => rfl
  | 39, _ => rfl
  | 40, _ => rfl
  | 41, _ => rfl
  | 42, _ => rfl
  | 43, _ => rfl
  | 44, _ => rfl
  | 45, _ => rfl
  | 46, _ => rfl
  | 47, _ => rfl
  | 48, _ => rfl
  | 49, _ => rfl
  | 50, _ => rfl
  | 51, _ => rfl
  | 52, _ => rfl
  | 53, _ => rfl
  | 54, _ => rfl
  | 55, _ => rfl
  | 56, _ => rfl
  | 57, _ => rfl
  | 58, _ => rfl
  | 59, _ => rfl
  | 60, _ => rfl
  | 61, _ => rfl
  | 62, _ => rfl
  | 63, _ => rfl
  | k + 64, h => by omega
set_option maxHeartbeats 4000000 in
theorem acc_set (r : RF) (v : AV) : ∀ k, k < 64 → ((acc k).set r v).toList = r.toList.set k v
  | 0, _ => rfl
  | 1, _ => rfl
  | 2, _ => rfl
  | 3, _ => rfl
  | 4, _ => rfl
  | 5, _ => rfl
  | 6, _ => rfl
  | 7, _ => rfl
  | 8, _ => rfl
  | 9, _ => rfl
  | 10, _ => rfl
  | 11, _ => rfl
  | 12, _ => rfl
  | 13, _ => rfl
  | 14, _ => rfl
  | 15, _ => rfl
  | 16, _ => rfl
  | 17, _ => rfl
  | 18, _ => rfl
  | 19, _ => rfl
  | 20, _ => rfl
  | 21, _ => rfl
  | 22, _ => rfl
  | 23, _ => rfl
  | 24, _ => rfl
  | 25, _ => rfl
  | 26, _ => rfl
  | 27, _ => rfl
  | 28, _ => rfl
  | 29, _ => rfl
  | 30, _ => rfl
  | 31, _ => rfl
  | 32, _ => rfl
  | 33, _ => rfl
  | 34, _ => rfl
  | 35, _ => rfl
  | 36, _ => rfl
  | 37, _ => rfl
  | 38, _ => rfl
  | 39, _ => rfl
  | 40, _ => rfl
  | 41, _ => rfl
  | 42, _ => rfl
  | 43, _ => rfl
  | 44, _ => rfl
  | 45, _ => rfl
  | 46, _ => rfl
  | 47, _ => rfl
  | 48, _ => rfl
  | 49, _ => rfl
  | 50, _ => rfl
  | 51, _ => rfl
  | 52, _ => rfl
  | 53, _ => rfl
  | 54, _ => rfl
  | 55, _ => rfl
  | 56, _ => rfl
  | 57, _ => rfl
  | 58, _ => rfl
  | 59, _ => rfl
  | 60, _ => rfl
  | 61, _ => rfl
  | 62, _ => rfl
  | 63, _ => rfl
  | k + 64, h => by omega
theorem RF.len (r : RF) : r.toList.length = 64 := rfl
theorem acc_get_set (r : RF) (v : AV) {j k : Nat} (hj : j < 64) (hk : k < 64) : (acc j).get ((acc k).set r v) = if j = k then v else (acc j).get r := by
  rw [acc_get _ j hj, acc_get _ j hj, acc_set _ _ k hk, List.getD_eq_getElem?_getD, List.getD_eq_getElem?_getD, List.getElem?_set]
  by_cases e : k = j
  · subst e
    simp [RF.len, hk]
  · rw [if_neg e, if_neg (fun h => e h.symm)]
/-! ### where an operand lies -/
theorem locF_eq : ∀ (i : Nat) (r : RF) (l : List AV), (locF i).f r l = l.getD i dflt
  | 0, r, [] => rfl
  | 0, r, x :: l => rfl
  | i + 1, r, [] => rfl
  | i + 1, r, x :: l => by
    show (locF i).f r l = _
    rw [locF_eq i r l]
    rfl
end
section
/-! ### what a value is -/
/-! ### whole numbers -/
/-! ### cells -/
/-! ### compiled code -/
/-! compiling -/
/-! which temporaries need a register: those that a region, a test or the results read and that no operation ahead of it in its region sets -/
end
section
/-! one operation -/
end
section
variable {res : AEnd × FH}

theorem onInt_some {v : AV} {c : IntKind → Int → R'} {s : R'} (h : onInt v c s = some res) : (∃ k n, v = .flat (.int k n) ∧ c k n = some res) ∨ s = some res := by
  cases v with
  | flat u => cases u <;> first | exact .inl ⟨_, _, rfl, h⟩ | exact .inr h
  | _ => exact .inr h
theorem onBool_some {v : AV} {t f : R'} (h : onBool v t f = some res) : ∃ b, v = .flat (.bool b) ∧ cond b t f = some res := by
  cases v with
  | flat u => cases u <;> first | (rename_i b; cases b <;> exact ⟨_, rfl, h⟩) | cases h
  | _ => cases h
def wantV : AV → Bool → Bool
  | .flat (.bool b), w => cond b w (!w)
  | _, _ => false
theorem onGuard_some {v : AV} {t f s : R'} (h : onGuard v t f s = some res) : (∃ b, v = .flat (.bool b) ∧ cond b t f = some res) ∨ ((∀ w, wantV v w = false) ∧ s = some res) := by
  cases v with
  | flat u => cases u <;> first | (rename_i b; cases b <;> exact .inl ⟨_, rfl, h⟩) | exact .inr ⟨fun _ => rfl, h⟩
  | _ => exact .inr ⟨fun _ => rfl, h⟩
theorem onPtr_some {v : AV} {c : Nat → Nat → R'} (h : onPtr v c = some res) : ∃ b o, v = .ptr b o ∧ c b o = some res := by
  cases v <;> first | exact ⟨_, _, rfl, h⟩ | cases h
theorem onSlice_some {v : AV} {c : Nat → Nat → Nat → R'} {s : R'} (h : onSlice v c s = some res) : (∃ b o n cp, v = .slice b o n cp ∧ c b o n = some res) ∨ s = some res := by
  cases v <;> first | exact .inl ⟨_, _, _, _, rfl, h⟩ | exact .inr h
theorem onTuple_some {v : AV} {c : List AV → R'} (h : onTuple v c = some res) : ∃ l, v = .tuple l ∧ c l = some res := by
  cases v <;> first | exact ⟨_, rfl, h⟩ | cases h
theorem onAgg_some {v : AV} {c : List AV → R'} {s : R'} (h : onAgg v c s = some res) : (∃ l, v = .agg l ∧ c l = some res) ∨ s = some res := by
  cases v <;> first | exact .inl ⟨_, rfl, h⟩ | exact .inr h
theorem onFunc_some {v : AV} {c : FuncId → List AV → List AV → R'} (h : onFunc v c = some res) : ∃ g a b, v = .func (.func g) a b ∧ c g a b = some res := by
  cases v with
  | func fn a b => cases fn <;> first | exact ⟨_, _, _, rfl, h⟩ | cases h
  | _ => cases h
theorem kF_eq (K k : IntKind) (y n : R') : (kF K).f k y n = if k = K then y else n := by cases K <;> cases k <;> rfl
theorem onNat_some {K : IntKind} {v : AV} {c : Nat → R'} {s : R'} (h : (onNat K).f v c s = some res) : (∃ n, v = .flat (.int K (.ofNat n)) ∧ c n = some res) ∨ s = some res := by
  rcases onInt_some h with ⟨k, n, hv, h2⟩ | h2
  · clear h
    replace h2 : (kF K).f k (Int.rec (motive := fun _ => (Nat → R') → R' → R') (fun m c _ => c m) (fun _ _ s => s) n c s) s = some res := h2
    rw [kF_eq] at h2
    split at h2
    · rename_i e
      subst e
      cases n with
      | ofNat n => exact .inl ⟨n, hv, h2⟩
      | negSucc n => exact .inr h2
    · exact .inr h2
  · exact .inr h2
theorem forceK_eq (n : Nat) (c : Nat → R') : forceK n c = c n := by cases n <;> rfl
theorem boolK_eq (b : Bool) (t f : R') : boolK b t f = cond b t f := by cases b <;> rfl
theorem listK_eq : ∀ (l : List AV) (c : List AV → R'), listK l c = c l
  | [], c => rfl
  | x :: l, c => listK_eq l (fun xs => c (x :: xs))

/-! ### whole numbers -/
/-- what a quick form of an operation on two numbers must meet -/
def BinOk (op : BinOp) (K : IntKind) : Prop :=
  ∀ (T : Tab) (t : TypeId) (x y : AV) (c : AV → R') (s : R') (res : AEnd × FH), (binF op K).f x y c s = some res → (∃ v, evBin T op t x y = some v ∧ c v = some res) ∨ s = some res
theorem two_ok {op : BinOp} {K : IntKind} {g : Nat → Nat → (AV → R') → R' → R'} (hb : binF op K = two K g)
    (hg : ∀ (m n : Nat) (c : AV → R') (s : R') (res : AEnd × FH), g m n c s = some res → (∃ u, iop op K (.ofNat m) (.ofNat n) = some u ∧ c (.flat u) = some res) ∨ s = some res) : BinOk op K := by
  intro T t x y c s res h
  rw [hb] at h
  replace h : (onNat K).f x (fun m => (onNat K).f y (fun n => g m n c s) s) s = some res := h
  rcases onNat_some h with ⟨m, hx, h2⟩ | h2
  · rcases onNat_some h2 with ⟨n, hy, h3⟩ | h3
    · rcases hg m n c s res h3 with ⟨u, h4, h5⟩ | h5
      · refine .inl ⟨.flat u, ?_, h5⟩
        have hk : (isShift op || ikEq K K) = true := by cases K <;> simp [ikEq]
        simp only [hx, hy, evBin, evInt, hk, cond_true, h4, Option.map_some]
      · exact .inr h5
    · exact .inr h3
  · exact .inr h2
theorem fw_i64 {m : Nat} (h : m < 9223372036854775808) : fwrap .i64 (.ofNat m) = .ofNat m := by rw [fwrap_eq]; exact i64_small m h
theorem fw_u64 (m : Nat) : fwrap .u64 (.ofNat m) = .ofNat (m % 18446744073709551616) := by rw [fwrap_eq]; exact u64_mod m
theorem ble_not_blt (m n : Nat) : Nat.ble m n = !Nat.blt n m := by
  rw [Bool.eq_iff_iff]
  simp only [Nat.ble_eq, Bool.not_eq_true', ← Bool.not_eq_true, Nat.blt_eq]
  omega
theorem cmp_ok {op : BinOp} {K : IntKind} {g : Nat → Nat → Bool} (hb : binF op K = compared K g) (hg : ∀ m n, iop op K (.ofNat m) (.ofNat n) = some (.bool (g m n))) : BinOk op K := by
  refine two_ok hb fun m n c s res h => ?_
  rw [boolK_eq] at h
  left
  refine ⟨.bool (g m n), hg m n, ?_⟩
  cases hgb : g m n <;> rw [hgb] at h <;> exact h
theorem bin_ok (op : BinOp) (K : IntKind) : BinOk op K := by
  have no : binF op K = noBF → BinOk op K := fun hb T t x y c s res h => .inr (by rw [hb] at h; exact h)
  have capped_ok : ∀ (o : BinOp) (g : Nat → Nat → Nat), binF o .i64 = capped .i64 9223372036854775808 g → (∀ m n, iop o .i64 (.ofNat m) (.ofNat n) = some (.int .i64 (fwrap .i64 (.ofNat (g m n))))) → BinOk o .i64 := fun o g hb hi => by
    refine two_ok hb fun m n c s res h => ?_
    rw [forceK_eq, boolK_eq] at h
    cases hl : Nat.blt (g m n) 9223372036854775808 with
    | false => rw [hl] at h; exact .inr h
    | true =>
      rw [hl] at h
      exact .inl ⟨_, by rw [hi, fw_i64 (Nat.blt_eq.mp hl)], h⟩
  have modded_ok : ∀ (o : BinOp) (g : Nat → Nat → Nat), binF o .u64 = modded .u64 18446744073709551616 g → (∀ m n, iop o .u64 (.ofNat m) (.ofNat n) = some (.int .u64 (fwrap .u64 (.ofNat (g m n))))) → BinOk o .u64 := fun o g hb hi => by
    refine two_ok hb fun m n c s res h => ?_
    rw [forceK_eq] at h
    exact .inl ⟨_, by rw [hi, fw_u64]; rfl, h⟩
  cases op with
  | add =>
    cases K <;> first
      | exact no rfl
      | exact capped_ok .add Nat.add rfl fun m n => rfl
      | exact modded_ok .add Nat.add rfl fun m n => rfl
  | mul =>
    cases K <;> first
      | exact no rfl
      | exact capped_ok .mul Nat.mul rfl fun m n => rfl
      | exact modded_ok .mul Nat.mul rfl fun m n => rfl
  | sub =>
    cases K <;> first
      | exact no rfl
      | (refine two_ok rfl fun m n c s res h => ?_
         rw [boolK_eq] at h
         cases hl : Nat.ble n m with
         | false => rw [hl] at h; exact .inr h
         | true =>
           rw [hl, cond_true, forceK_eq, boolK_eq] at h
           cases hl2 : Nat.blt (Nat.sub m n) 9223372036854775808 with
           | false => rw [hl2] at h; exact .inr h
           | true =>
             rw [hl2] at h
             refine .inl ⟨_, ?_, h⟩
             have hle := Nat.ble_eq.mp hl
             have : Int.sub (.ofNat m) (.ofNat n) = .ofNat (Nat.sub m n) := by
               show (m : Int) - (n : Int) = ((m - n : Nat) : Int)
               omega
             show some (Value.int .i64 (fwrap .i64 (Int.sub (.ofNat m) (.ofNat n)))) = _
             rw [this, fw_i64 (Nat.blt_eq.mp hl2)])
  | quo =>
    cases K <;> first
      | exact no rfl
      | (refine two_ok rfl fun m n c s res h => ?_
         rw [boolK_eq] at h
         cases hz : Nat.beq n 0 with
         | true => rw [hz] at h; cases h
         | false =>
           rw [hz, cond_false, forceK_eq, boolK_eq] at h
           cases hl2 : Nat.blt (Nat.div m n) 9223372036854775808 with
           | false => rw [hl2] at h; exact .inr h
           | true =>
             rw [hl2] at h
             refine .inl ⟨_, ?_, h⟩
             show cond (Nat.beq n 0) none (some (Value.int .i64 (fwrap .i64 (.ofNat (m / n))))) = _
             rw [hz, cond_false]
             show some (Value.int .i64 (fwrap .i64 (.ofNat (Nat.div m n)))) = _
             rw [fw_i64 (Nat.blt_eq.mp hl2)])
  | rem =>
    cases K <;> first
      | exact no rfl
      | (refine two_ok rfl fun m n c s res h => ?_
         rw [boolK_eq] at h
         cases hz : Nat.beq n 0 with
         | true => rw [hz] at h; cases h
         | false =>
           rw [hz, cond_false, forceK_eq] at h
           refine .inl ⟨_, ?_, h⟩
           show cond (Nat.beq n 0) none (some (Value.int .i64 (.ofNat (m % n)))) = _
           rw [hz]
           rfl)
  | lss => exact cmp_ok (g := Nat.blt) (by cases K <;> rfl) fun m n => rfl
  | gtr => exact cmp_ok (g := fun m n => Nat.blt n m) (by cases K <;> rfl) fun m n => rfl
  | eql => exact cmp_ok (g := Nat.beq) (by cases K <;> rfl) fun m n => rfl
  | leq => exact cmp_ok (g := Nat.ble) (by cases K <;> rfl) fun m n => by rw [ble_not_blt]; rfl
  | geq => exact cmp_ok (g := fun m n => Nat.ble n m) (by cases K <;> rfl) fun m n => by rw [ble_not_blt]; rfl
  | neq =>
    refine two_ok (g := fun m n c s => boolK (Nat.beq m n) (c (.flat (.bool false))) (c (.flat (.bool true)))) (by cases K <;> rfl) fun m n c s res h => ?_
    rw [boolK_eq] at h
    left
    refine ⟨.bool (!Nat.beq m n), rfl, ?_⟩
    cases hgb : Nat.beq m n <;> rw [hgb] at h <;> exact h
  | _ => exact no (by cases K <;> rfl)
theorem fw_u32 (m : Nat) : fwrap .u32 (.ofNat m) = .ofNat (m % 4294967296) := by
  rw [fwrap_eq]
  simp [IntKind.wrap, IntKind.bits, IntKind.signed]
theorem fw_u8 (m : Nat) : fwrap .u8 (.ofNat m) = .ofNat (m % 256) := by
  rw [fwrap_eq]
  simp [IntKind.wrap, IntKind.bits, IntKind.signed]
theorem conv_some {K : IntKind} {v : AV} {c : AV → R'} {s : R'} (h : (convF K).f v c s = some res) : (∃ k n, v = .flat (.int k n) ∧ c (.flat (.int K (fwrap K n))) = some res) ∨ s = some res := by
  have md : ∀ (K : IntKind) (lim : Nat), convF K = convMod K lim → (∀ m, fwrap K (.ofNat m) = .ofNat (m % lim)) → (convF K).f v c s = some res → (∃ k n, v = .flat (.int k n) ∧ c (.flat (.int K (fwrap K n))) = some res) ∨ s = some res := fun K lim hc hw h => by
    rw [hc] at h
    rcases onInt_some h with ⟨k, n, hv, h2⟩ | h2
    · cases n with
      | ofNat m =>
        replace h2 : forceK (Nat.mod m lim) (fun r => c (.flat (.int K (.ofNat r)))) = some res := h2
        rw [forceK_eq] at h2
        exact .inl ⟨k, _, hv, by rw [hw]; exact h2⟩
      | negSucc m => exact .inr h2
    · exact .inr h2
  cases K with
  | i64 =>
    rcases onInt_some h with ⟨k, n, hv, h2⟩ | h2
    · cases n with
      | ofNat m =>
        replace h2 : boolK (Nat.blt m 9223372036854775808) (c (.flat (.int .i64 (.ofNat m)))) s = some res := h2
        rw [boolK_eq] at h2
        cases hl : Nat.blt m 9223372036854775808 with
        | false => rw [hl] at h2; exact .inr h2
        | true =>
          rw [hl] at h2
          exact .inl ⟨k, _, hv, by rw [fw_i64 (Nat.blt_eq.mp hl)]; exact h2⟩
      | negSucc m => exact .inr h2
    · exact .inr h2
  | u64 => exact md .u64 _ rfl fw_u64 h
  | u32 => exact md .u32 _ rfl fw_u32 h
  | u8 => exact md .u8 _ rfl fw_u8 h
  | _ => exact .inr h

/-! ### cells -/
theorem nthK_some : ∀ {l : List AV} {k : Nat} {c : AV → R'}, nthK l k c = some res → ∃ v, l[k]? = some v ∧ c v = some res
  | [], k, c, h => by cases h
  | x :: l, 0, c, h => ⟨x, rfl, h⟩
  | x :: l, k + 1, c, h => by
    obtain ⟨v, h1, h2⟩ := nthK_some (l := l) (k := k) h
    exact ⟨v, by simpa using h1, h2⟩
theorem setK_some : ∀ {l : List AV} {k : Nat} {v : AV} {c : List AV → R'}, setK l k v c = some res → ∃ l', spl l k [v] = some l' ∧ c l' = some res
  | [], k, v, c, h => by cases h
  | x :: l, 0, v, c, h => ⟨v :: l, by simp [spl, over], h⟩
  | x :: l, k + 1, v, c, h => by
    obtain ⟨l', h1, h2⟩ := setK_some (l := l) (k := k) h
    exact ⟨x :: l', by simp [spl, h1], h2⟩
theorem overK_some : ∀ {cs l : List AV} {c : List AV → R'}, overK cs l c = some res → ∃ l', over l cs = some l' ∧ c l' = some res
  | [], l, c, h => ⟨l, by simp [over], h⟩
  | v :: cs, [], c, h => by cases h
  | v :: cs, x :: l, c, h => by
    obtain ⟨l', h1, h2⟩ := overK_some (cs := cs) (l := l) h
    exact ⟨v :: l', by simp [over, h1], h2⟩
theorem splK_some : ∀ {l : List AV} {k : Nat} {cs : List AV} {c : List AV → R'}, splK l k cs c = some res → ∃ l', spl l k cs = some l' ∧ c l' = some res
  | [], 0, cs, c, h => by
    obtain ⟨l', h1, h2⟩ := overK_some (cs := cs) (l := []) h
    exact ⟨l', by simpa [spl] using h1, h2⟩
  | [], k + 1, cs, c, h => by cases h
  | x :: l, 0, cs, c, h => by
    obtain ⟨l', h1, h2⟩ := overK_some (cs := cs) (l := x :: l) h
    exact ⟨l', by simpa [spl] using h1, h2⟩
  | x :: l, k + 1, cs, c, h => by
    obtain ⟨l', h1, h2⟩ := splK_some (l := l) (k := k) (cs := cs) h
    exact ⟨x :: l', by simp [spl, h1], h2⟩
theorem dropK_eq : ∀ (l : List AV) (k : Nat) (c : List AV → R'), dropK l k c = c (l.drop k)
  | [], k, c => by simp; rfl
  | x :: l, 0, c => rfl
  | x :: l, k + 1, c => dropK_eq l k c
theorem takeF_some : ∀ {n : Nat} {l : List AV} {c : List AV → R'}, (takeF n).f l c = some res → ∃ l', takeX l n = some l' ∧ c l' = some res
  | 0, l, c, h => ⟨[], by cases l <;> rfl, h⟩
  | n + 1, [], c, h => by cases h
  | n + 1, x :: l, c, h => by
    obtain ⟨l', h1, h2⟩ := takeF_some (n := n) (l := l) h
    exact ⟨x :: l', by simp [takeX, h1], h2⟩
theorem cellsK_some {h : FH} {b : Nat} {c : List AV → TypeId → Bool → R'} (k : cellsK h b c = some res) : ∃ l e x, h.abs.get b = some (.cells l e x) ∧ c l e x = some res := by
  unfold cellsK at k
  rw [FH.get_eq] at k
  cases hg : h.abs.get b with
  | none => rw [hg] at k; cases k
  | some o =>
    rw [hg] at k
    cases o with
    | cells l e x => exact ⟨l, e, x, rfl, k⟩
theorem storeK_some {h : FH} {b o : Nat} {cs : List AV} {c : FH → R'} (k : storeK h b o cs c = some res) : ∃ h', evStoreC b o cs h.abs = some h'.abs ∧ c h' = some res := by
  unfold storeK at k
  rw [boolK_eq] at k
  cases ho : allOne cs with
  | false => rw [ho] at k; cases k
  | true =>
    rw [ho, cond_true] at k
    obtain ⟨l, e, x, h1, k⟩ := cellsK_some k
    obtain ⟨l', h2, k⟩ := splK_some k
    obtain ⟨h', h3, k⟩ := FH.putK_some k
    refine ⟨h', ?_, k⟩
    simp only [evStoreC, ho, cond_true, h1, h2, forceL_eq, h3]
theorem blkK_some {h : FH} {l : List AV} {t : TypeId} {x : Bool} {c : FH → R'} (k : blkK h l t x c = some res) : ∃ h', newBlk h.abs l t x = some h'.abs ∧ c h' = some res := by
  unfold blkK at k
  rw [listK_eq] at k
  exact ⟨_, by simp only [newBlk, forceL_eq]; exact FH.new_abs h _, k⟩
end
section
variable {res : AEnd × FH}

/-- Each operand lies where the compiler says. -/
def LookOk (nl : List (Nat × Nat)) (c : CS) (ev : Operand → AV) (r : RF) (l : List AV) : Prop := ∀ x src, c.look nl x = some src → ev x = (srcF src).f r l
theorem vals_eq : ∀ (ss : List Src) (r : RF) (l : List AV), vals ss r l = ss.map fun s => (srcF s).f r l
  | [], r, l => rfl
  | s :: ss, r, l => by
    show (srcF s).f r l :: vals ss r l = _
    rw [vals_eq ss r l]
    rfl
theorem lookA_vals {nl : List (Nat × Nat)} {c : CS} {ev : Operand → AV} {r : RF} {l : List AV} (k : LookOk nl c ev r l) : ∀ {xs : List Operand} {ss : List Src}, c.lookA nl xs = some ss → xs.map ev = vals ss r l
  | [], ss, h => by
    simp only [CS.lookA, Option.some.injEq] at h
    subst h
    rfl
  | x :: xs, ss, h => by
    simp only [CS.lookA] at h
    split at h
    · rename_i s q h1 h2
      simp only [Option.some.injEq] at h
      subst h
      rw [List.map_cons, k x s h1, lookA_vals k h2]
      rfl
    · cases h
theorem envOf_ev {nl : List (Nat × Nat)} {c : CS} {ev : Operand → AV} {r : RF} {l : List AV} (k : LookOk nl c ev r l) : ∀ {xs : List Operand} {env : List (Nat × Src)}, c.envOf nl xs = some env →
    (∀ t s, (t, s) ∈ env → c.look nl (.tmp t) = some s) ∧ ∀ t, Operand.tmp t ∈ xs → ∃ s, (t, s) ∈ env
  | [], env, h => by
    simp only [CS.envOf, Option.some.injEq] at h
    subst h
    exact ⟨(fun t s hm => by cases hm), (fun t hm => by cases hm)⟩
  | .tmp t :: xs, env, h => by
    simp only [CS.envOf] at h
    split at h
    · rename_i s q h1 h2
      simp only [Option.some.injEq] at h
      subst h
      obtain ⟨g1, g2⟩ := envOf_ev k h2
      refine ⟨fun t' s' hm => ?_, fun t' hm => ?_⟩
      · rcases List.mem_cons.1 hm with e | hm
        · injection e with e1 e2
          subst e1 e2
          exact h1
        · exact g1 t' s' hm
      · rcases List.mem_cons.1 hm with e | hm
        · injection e with e
          subst e
          exact ⟨s, by simp⟩
        · obtain ⟨s', hs⟩ := g2 t' hm
          exact ⟨s', by simp [hs]⟩
    · cases h
  | .const v :: xs, env, h => by
    simp only [CS.envOf] at h
    obtain ⟨g1, g2⟩ := envOf_ev k h
    exact ⟨g1, fun t hm => g2 t (by simpa using hm)⟩
  | .global v :: xs, env, h => by
    simp only [CS.envOf] at h
    obtain ⟨g1, g2⟩ := envOf_ev k h
    exact ⟨g1, fun t hm => g2 t (by simpa using hm)⟩
  | .func v :: xs, env, h => by
    simp only [CS.envOf] at h
    obtain ⟨g1, g2⟩ := envOf_ev k h
    exact ⟨g1, fun t hm => g2 t (by simpa using hm)⟩
theorem assoc_mem {β : Type} : ∀ {l : List (Nat × β)} {t : Nat} {x : β}, assoc l t = some x → (t, x) ∈ l
  | [], t, x, h => by cases h
  | (a, b) :: l, t, x, h => by
    simp only [assoc] at h
    cases e : Nat.beq a t with
    | true =>
      rw [e, cond_true] at h
      rw [Nat.beq_eq] at e
      injection h with h
      subst e h
      simp
    | false =>
      rw [e, cond_false] at h
      exact List.mem_cons.2 (.inr (assoc_mem h))
theorem assoc_of_mem {β : Type} : ∀ {l : List (Nat × β)} {t : Nat} {x : β}, (t, x) ∈ l → ∃ y, assoc l t = some y
  | [], t, x, h => by cases h
  | (a, b) :: l, t, x, h => by
    simp only [assoc]
    cases e : Nat.beq a t with
    | true => exact ⟨b, rfl⟩
    | false =>
      rcases List.mem_cons.1 h with e2 | h
      · injection e2 with e2 _
        subst e2
        rw [Nat.beq_refl] at e
        cases e
      · exact assoc_of_mem h
theorem envE_ev {nl : List (Nat × Nat)} {c : CS} {ev : Operand → AV} {r : RF} {l : List AV} (k : LookOk nl c ev r l) {xs : List Operand} {env : List (Nat × Src)} (h : c.envOf nl xs = some env) : ∀ x ∈ xs, envE (envV env r l) x = ev x := by
  intro x hx
  cases x with
  | const v => exact (k (.const v) _ rfl).symm
  | global v => exact (k (.global v) _ rfl).symm
  | func v => exact (k (.func v) _ rfl).symm
  | tmp t =>
    obtain ⟨g1, g2⟩ := envOf_ev k h
    obtain ⟨s, hs⟩ := g2 t hx
    have hm : (t, (srcF s).f r l) ∈ envV env r l := List.mem_map.2 ⟨(t, s), hs, rfl⟩
    obtain ⟨y, hy⟩ := assoc_of_mem hm
    obtain ⟨⟨t', s'⟩, hs', he⟩ := List.mem_map.1 (assoc_mem hy)
    injection he with e1 e2
    subst e1
    simp only [envE, hy]
    rw [← e2]
    exact (k _ _ (g1 t' s' hs')).symm

def IKOk (T : Tab) (ev : Operand → AV) (o : Oper) (h : FH) (r : RF) (l : List AV) : IK → Prop
  | .v x => ∀ kv res, x.f r l h kv = some res → ∃ v h', evOp T ev h.abs o = some (.val v h'.abs) ∧ kv v h' = some res
  | .s x => ∀ ks res, x.f r l h ks = some res → ∃ h', evOp T ev h.abs o = some (.skip h'.abs) ∧ ks h' = some res
  | .e x => ∀ kc res, x.f r l kc = some res → ∃ f args, evOp T ev h.abs o = some (.enter f args) ∧ kc f args = some res
  | .n x => ∀ kv kp res, x.f r l h kv kp = some res → (∃ v h', evOp T ev h.abs o = some (.val v h'.abs) ∧ kv v h' = some res) ∨ ∃ v, evOp T ev h.abs o = some (.panic v) ∧ kp v = some res

/-! ### operations without a form of their own -/
theorem cellsA_eq {h : FH} {x : AV} (size n : Nat) : cellsA h (blkOf h x) size n x = cellsX h.abs size n x := by
  cases x with
  | slice b o len c =>
    simp only [cellsA, cellsX, blkOf, FH.get_eq]
    all_goals (cases h.abs.get b with
      | none => rfl
      | some o => cases o; rfl)
  | flat v =>
    cases v with
    | slice a _ _ => cases a <;> rfl
    | _ => rfl
  | _ => rfl
theorem appendK_some {T : Tab} {t1 t2 : TypeId} {s x : AV} {h : FH} {c : AV → FH → R'} (k : appendK T t1 t2 s x h c = some res) : ∃ v h', evAppend T t1 t2 s x h.abs = some (v, h'.abs) ∧ c v h' = some res := by
  unfold appendK at k
  unfold evAppend
  split at k
  · rename_i i1 i2 h1 h2
    split at k
    · rename_i e he
      split at k
      · rename_i te n h3 h4
        rw [cellsA_eq] at k
        split at k
        · rename_i new hnew
          cases hc : (isSeq i2.td && Nat.blt 0 te.size && Nat.blt 0 te.bytes && small te.bytes && Nat.beq new.length (n * te.size)) with
          | false => rw [hc] at k; cases k
          | true =>
            rw [hc, cond_true] at k
            simp only [h1, h2, he, h3, h4, hnew, hc, cond_true]
            split at k
            · split at k
              · exact ⟨_, h, rfl, k⟩
              · rename_i n
                cases hs : small (n + 1) with
                | false => rw [hs] at k; cases k
                | true =>
                  rw [hs, cond_true] at k
                  obtain ⟨h', hn, k⟩ := blkK_some k
                  exact ⟨_, h', by simp only [hs, cond_true, hn, Option.map_some]; rfl, k⟩
            · rename_i b o len cp
              cases hroom : Nat.ble (len + n) cp with
              | true =>
                rw [hroom, cond_true] at k
                obtain ⟨h', hn, k⟩ := storeK_some k
                rw [forceN_eq] at k
                exact ⟨_, h', by simp only [hroom, cond_true, hn, Option.map_some], k⟩
              | false =>
                rw [hroom, cond_false] at k
                cases hs : small (len + n) with
                | false => rw [hs] at k; cases k
                | true =>
                  rw [hs, cond_true] at k
                  have : cellsA h (h.get b) te.size len (.slice b o len (.exact cp)) = cellsX h.abs te.size len (.slice b o len (.exact cp)) := cellsA_eq (x := .slice b o len (.exact cp)) te.size len
                  rw [this] at k
                  split at k
                  · rename_i old hold
                    obtain ⟨h', hn, k⟩ := blkK_some k
                    rw [forceN_eq] at k
                    exact ⟨_, h', by simp only [hroom, cond_false, hs, cond_true, hold, hn, Option.map_some]; rfl, k⟩
                  · cases k
            · rename_i b o len es
              cases hcc : (Nat.beq es te.size && Nat.beq o 0 && small (len + n) && allOne new) with
              | false => rw [hcc] at k; cases k
              | true =>
                rw [hcc, cond_true] at k
                rw [FH.get_eq] at k
                split at k
                · rename_i l e' hg
                  cases hl : (Nat.beq l.length (len * te.size) && Nat.beq e' e) with
                  | false => rw [hl] at k; cases k
                  | true =>
                    rw [hl, cond_true] at k
                    obtain ⟨h2, hp, k⟩ := FH.putK_some k
                    obtain ⟨h', hn, k⟩ := blkK_some k
                    rw [forceN_eq] at k
                    exact ⟨_, h', by simp only [hcc, cond_true, hg, hl, hp, hn, Option.map_some]; rfl, k⟩
                · cases k
            · cases k
        · cases k
      · cases k
    · cases k
  · cases k
theorem copyK_some {T : Tab} {t1 : TypeId} {d x : AV} {h : FH} {c : AV → FH → R'} (k : copyK T t1 d x h c = some res) : ∃ v h', evCopy T t1 d x h.abs = some (v, h'.abs) ∧ c v h' = some res := by
  unfold copyK at k
  unfold evCopy
  split at k
  · rename_i i1 h1
    split at k
    · rename_i e m n he hm hn
      split at k
      · rename_i te hte
        rw [cellsA_eq] at k
        split at k
        · rename_i cs b o _ _ hcs
          obtain ⟨h', hs, k⟩ := storeK_some k
          exact ⟨_, h', by simp only [h1, he, hm, hn, hte, hcs, hs, Option.map_some], k⟩
        · rename_i _ _ hcs
          exact ⟨_, h, by simp only [h1, he, hm, hn, hte, hcs], k⟩
        · cases k
      · cases k
    · cases k
  · cases k
/-- what a plain operation answers has nothing to do with the heap -/
def heapless : Op → Bool
  | .buildSlice _ _ _ | .makeSlice _ _ _ | .alloc _ | .box _ _ | .load _ _ | .store _ _ _ | .move _ | .assign _ => false
  | .call _ => false
  | _ => true
theorem evOp_heapless {T : Tab} {e : Operand → AV} {h h1 : Hp} {o : Oper} {v : AV} (hl : heapless o.op = true) (k : evOp T e h o = some (.val v h1)) (h2 : Hp) : evOp T e h2 o = some (.val v h2) := by
  obtain ⟨dst, op, ty, pos, after, guard⟩ := o
  have pure : ∀ (x : Option AV), R.pure h x = some (R.val v h1) → R.pure h2 x = some (R.val v h2) := fun x k => by
    cases x with
    | none => simp [R.pure] at k
    | some u =>
      simp only [R.pure, Option.some.injEq, R.val.injEq] at k ⊢
      exact ⟨k.1, trivial⟩
  have same : ∀ (x : AV), some (R.val x h) = some (R.val v h1) → some (R.val x h2) = some (R.val v h2) := fun x k => by
    simp only [Option.some.injEq, R.val.injEq] at k ⊢
    exact ⟨k.1, trivial⟩
  cases op <;> simp only [heapless] at hl <;> try (cases hl; done)
  all_goals simp only [evOp] at k ⊢
  all_goals first
    | exact pure _ k
    | exact same _ k
    | (split at k <;> first
        | exact same _ k
        | exact pure _ k
        | cases k
        | (split at k <;> first
            | exact same _ k
            | cases k))
    | cases k
theorem evOp_panic {T : Tab} {e : Operand → AV} {h : Hp} {o : Oper} {v : AV} (k : evOp T e h o = some (.panic v)) (h2 : Hp) : evOp T e h2 o = some (.panic v) := by
  obtain ⟨dst, op, ty, pos, after, guard⟩ := o
  have pure : ∀ (x : Option AV), R.pure h x ≠ some (R.panic v) := fun x => by cases x <;> simp [R.pure]
  have both : ∀ (x : Option (AV × Hp)), R.both x ≠ some (R.panic v) := fun x => by cases x <;> simp [R.both]
  have blt : ∀ b ts args, evBuiltin T b ts args h ≠ some (R.panic v) := fun b ts args k => by
    unfold evBuiltin at k
    split at k
    all_goals first
      | (split at k <;> first
          | exact pure _ k
          | exact both _ k
          | cases k)
      | cases k
  cases op
  case panic x => exact k
  case call c =>
    exfalso
    simp only [evOp] at k
    unfold evCallOp at k
    split at k
    · exact blt _ _ _ k
    · split at k
      · split at k <;> cases k
      · cases k
    · cases k
  case store t a x =>
    exfalso
    simp only [evOp, Option.map_eq_some_iff] at k
    obtain ⟨_, _, k⟩ := k
    cases k
  all_goals
    exfalso
    simp only [evOp] at k
    first
      | exact pure _ k
      | exact both _ k
      | (split at k <;> first
          | exact pure _ k
          | exact both _ k
          | cases k
          | (split at k <;> cases k))
      | cases k
theorem evBuiltin_heapless {T : Tab} {b : Builtin} {ts : List TypeId} {args : List AV} {h h1 : Hp} {v : AV} (hb : b ≠ .append ∧ b ≠ .copy) (k : evBuiltin T b ts args h = some (.val v h1)) (h2 : Hp) : evBuiltin T b ts args h2 = some (.val v h2) := by
  have pure : ∀ (x : Option AV), R.pure h x = some (R.val v h1) → R.pure h2 x = some (R.val v h2) := fun x k => by
    cases x with
    | none => simp [R.pure] at k
    | some u =>
      simp only [R.pure, Option.some.injEq, R.val.injEq] at k ⊢
      exact ⟨k.1, trivial⟩
  unfold evBuiltin at k ⊢
  cases b <;> first
    | exact absurd rfl hb.1
    | exact absurd rfl hb.2
    | (dsimp only at k ⊢; split at k <;> first
        | exact pure _ k
        | cases k)
    | cases k
theorem genK_some {T : Tab} {o : Oper} {e : Operand → AV} {h : FH} {kv : AV → FH → R'} {kp : AV → R'} (hg : genOk o.op = true) (k : genK T o e h kv kp = some res) :
    (∃ v h', evOp T e h.abs o = some (.val v h'.abs) ∧ kv v h' = some res) ∨ ∃ v, evOp T e h.abs o = some (.panic v) ∧ kp v = some res := by
  obtain ⟨dst, op, ty, pos, after, guard⟩ := o
  have plain : heapless op = true → (match evOp T e ⟨0, 0, fun _ => none⟩ ⟨dst, op, ty, pos, after, guard⟩ with
      | some (.val v _) => forceA v fun v => kv v h
      | some (.panic v) => kp v
      | _ => none) = some res → (∃ v h', evOp T e h.abs ⟨dst, op, ty, pos, after, guard⟩ = some (.val v h'.abs) ∧ kv v h' = some res) ∨ ∃ v, evOp T e h.abs ⟨dst, op, ty, pos, after, guard⟩ = some (.panic v) ∧ kp v = some res := fun hl k => by
    split at k
    · rename_i v h1 hv
      rw [forceA_eq] at k
      exact .inl ⟨v, h, evOp_heapless hl hv _, k⟩
    · rename_i v hv
      exact .inr ⟨v, evOp_panic hv _, k⟩
    · cases k
  cases op
  case buildSlice t len ps =>
    left
    simp only [genK] at k
    simp only [evOp, evBuildSlice]
    split at k
    · rename_i i hi
      split at k
      · rename_i el hel
        split at k
        · rename_i j hj
          cases hb : Nat.ble (len * j.size) 16777216 with
          | false => rw [hb] at k; cases k
          | true =>
            rw [hb, cond_true] at k
            split at k
            · rename_i l hl
              obtain ⟨h', hn, k⟩ := blkK_some k
              exact ⟨_, h', by simp only [hi, hel, hj, hb, cond_true, hl, hn, Option.map_some, R.both]; rfl, k⟩
            · cases k
        · cases k
      · cases k
    · cases k
  case makeSlice t a b =>
    left
    simp only [genK] at k
    simp only [evOp, evMakeSlice]
    split at k
    · rename_i k1 n1 k2 n2 ti ha hb hti
      split at k
      · rename_i el hel
        split at k
        · rename_i te hte
          cases hc : (small n2 && small te.bytes && Nat.ble n1 n2) with
          | false => rw [hc] at k; cases k
          | true =>
            rw [hc, cond_true] at k
            obtain ⟨h', hn, k⟩ := blkK_some k
            rw [forceN_eq, forceN_eq] at k
            exact ⟨_, h', by simp only [ha, hb, hti, hel, hte, hc, cond_true, hn, Option.map_some, R.both]; rfl, k⟩
        · cases k
      · cases k
    · cases k
  case call c =>
    left
    simp only [genK] at k
    simp only [evOp, evCallOp]
    split at k
    · rename_i hc
      split at k
      · rename_i t1 t2 ts s x xs hts hargs
        obtain ⟨v, h', h1, k⟩ := appendK_some k
        exact ⟨v, h', by simp only [hc, evBuiltin, hts, hargs, h1, R.both], k⟩
      · cases k
    · rename_i hc
      split at k
      · rename_i t1 ts s x xs hts hargs
        obtain ⟨v, h', h1, k⟩ := copyK_some k
        exact ⟨v, h', by simp only [hc, evBuiltin, hts, hargs, h1, R.both], k⟩
      · cases k
    · rename_i b hn1 hn2 hc
      split at k
      · rename_i v h1 hv
        rw [forceA_eq] at k
        refine ⟨v, h, ?_, k⟩
        simp only [hc]
        exact evBuiltin_heapless ⟨fun e => hn1 e, fun e => hn2 e⟩ hv _
      · cases k
    · cases k
  all_goals first
    | (simp only [genOk] at hg; cases hg; done)
    | exact plain rfl k
end
section
variable {res : AEnd × FH}

theorem one_cells {v : AV} (h : v.one = true) : v.cells = [v] := by
  cases v with
  | flat u => cases u <;> first | rfl | (simp [AV.one] at h)
  | agg l => simp [AV.one] at h
  | tuple l => simp [AV.one] at h
  | _ => rfl
theorem len_of_slice {T : Tab} {t : TypeId} {i : TI} {e : TypeId} (hi : T.types.get t = some i) (he : i.td = .slice e) (b o n : Nat) (c : Cap) : evLen T t (.slice b o n c) = some (.flat (.int .i64 (.ofNat n))) := by
  simp only [evLen, hi, he]

theorem genOf_ok {T : Tab} {nl : List (Nat × Nat)} {c : CS} {o : Oper} {i : Ins} {ev : Operand → AV} {r : RF} {l : List AV} {h : FH} (k : LookOk nl c ev r l) (hi : genOf nl c o = some i) : IKOk T ev o h r l (insF T i) := by
  unfold genOf at hi
  cases hg : genOk o.op with
  | false => rw [hg] at hi; cases hi
  | true =>
    rw [hg, cond_true] at hi
    split at hi
    · rename_i env henv
      simp only [Option.some.injEq] at hi
      subst hi
      intro kv kp res hr
      have hc : evOp T (envE (envV env r l)) h.abs o = evOp T ev h.abs o := evOp_congr fun x hx => envE_ev k henv x (by simpa using hx)
      have := genK_some hg (show genK T o (envE (envV env r l)) h kv kp = some res from hr)
      rw [hc] at this
      exact this
    · cases hi

theorem insOf_ok {T : Tab} {nl : List (Nat × Nat)} {c : CS} {o : Oper} {i : Ins} {ev : Operand → AV} {r : RF} {l : List AV} {h : FH} (k : LookOk nl c ev r l) (hi : insOf T nl c o = some i) : IKOk T ev o h r l (insF T i) := by
  obtain ⟨dst, op, ty, pos, after, guard⟩ := o
  have gen : ∀ {i}, genOf nl c ⟨dst, op, ty, pos, after, guard⟩ = some i → IKOk T ev ⟨dst, op, ty, pos, after, guard⟩ h r l (insF T i) := fun hi => genOf_ok k hi
  have mv : ∀ {x : Operand} {i}, (op = .move x ∨ op = .assign x) → (c.look nl x).map .mv = some i → IKOk T ev ⟨dst, op, ty, pos, after, guard⟩ h r l (insF T i) := fun {x i} ho hi => by
    simp only [Option.map_eq_some_iff] at hi
    obtain ⟨s, hs, rfl⟩ := hi
    intro kv res hr
    refine ⟨ev x, h, ?_, ?_⟩
    · rcases ho with rfl | rfl <;> rfl
    · rw [k x s hs]; exact hr
  cases op
  case move x => exact mv (.inl rfl) hi
  case assign x => exact mv (.inr rfl) hi
  case pick a b d =>
    simp only [insOf] at hi
    split at hi
    · rename_i sa sb sd h1 h2 h3
      simp only [Option.some.injEq] at hi
      subst hi
      intro kv res hr
      obtain ⟨t, ht, hr⟩ := onBool_some (show onBool ((srcF sa).f r l) (kv ((srcF sb).f r l) h) (kv ((srcF sd).f r l) h) = some res from hr)
      rw [← k a sa h1] at ht
      refine ⟨cond t (ev b) (ev d), h, by simp only [evOp, ht], ?_⟩
      rw [k b sb h2, k d sd h3]
      cases t <;> exact hr
    · cases hi
  case alloc t =>
    simp only [insOf] at hi
    split at hi
    · rename_i ti hti
      simp only [Option.some.injEq] at hi
      subst hi
      intro kv res hr
      refine ⟨_, _, ?_, hr⟩
      simp only [evOp, hti, newBlk, forceL_eq]
      rw [FH.new_abs h]
      rfl
    · cases hi
  case box t x =>
    simp only [insOf, Option.map_eq_some_iff] at hi
    obtain ⟨s, hs, rfl⟩ := hi
    intro kv res hr
    have hx := k x s hs
    have fin : ∀ cs, (ev x).cells = cs → (h.newK (.cells cs t false) fun h' => kv (.ptr h.next 0) h') = some res → ∃ v h', evOp T ev h.abs ⟨dst, .box t x, ty, pos, after, guard⟩ = some (.val v h'.abs) ∧ kv v h' = some res := fun cs hcs hr => by
      refine ⟨_, _, ?_, hr⟩
      simp only [evOp, newBlk, forceL_eq, hcs]
      rw [FH.new_abs h]
      rfl
    rcases onAgg_some (show onAgg ((srcF s).f r l) (fun cs => h.newK (.cells cs t false) fun h' => kv (.ptr h.next 0) h') (h.newK (.cells ((srcF s).f r l).cells t false) fun h' => kv (.ptr h.next 0) h') = some res from hr) with ⟨cs, hcs, hr⟩ | hr
    · exact fin cs (by rw [hx, hcs]; rfl) hr
    · exact fin _ (by rw [hx]) hr
  case load t a =>
    simp only [insOf] at hi
    split at hi
    · rename_i ti sa h1 h2
      have ha := k a sa h2
      split at hi
      · rename_i hagg
        simp only [Option.some.injEq] at hi
        subst hi
        intro kv res hr
        obtain ⟨b, o, hb, hr⟩ := onPtr_some (show onPtr ((srcF sa).f r l) (fun b o => cellsK h b fun cs _ _ => dropK cs o fun cs => (takeF ti.size).f cs fun cs => kv (.agg cs) h) = some res from hr)
        obtain ⟨cs, e, x, hg, hr⟩ := cellsK_some hr
        rw [dropK_eq] at hr
        obtain ⟨cs', ht, hr⟩ := takeF_some hr
        exact ⟨_, h, by simp only [evOp, evLoad, ha, hb, hg, h1, hagg, ht, Option.map_some, R.pure], hr⟩
      · rename_i hagg
        simp only [Option.some.injEq] at hi
        subst hi
        intro kv res hr
        obtain ⟨b, o, hb, hr⟩ := onPtr_some (show onPtr ((srcF sa).f r l) (fun b o => cellsK h b fun cs _ _ => nthK cs o fun v => kv v h) = some res from hr)
        obtain ⟨cs, e, x, hg, hr⟩ := cellsK_some hr
        obtain ⟨v, ht, hr⟩ := nthK_some hr
        exact ⟨_, h, by simp only [evOp, evLoad, ha, hb, hg, h1, hagg, ht, R.pure], hr⟩
      · cases hi
    · cases hi
  case store t a x =>
    simp only [insOf] at hi
    split at hi
    · rename_i ti sa sx h1 h2 h3
      have ha := k a sa h2
      have hx := k x sx h3
      have many : IKOk T ev ⟨dst, .store t a x, ty, pos, after, guard⟩ h r l (insF T (.storeN ti.size sa sx)) := by
        intro ks res hr
        obtain ⟨b, o, hb, hr⟩ := onPtr_some (show onPtr ((srcF sa).f r l) (fun b' o => (fun cs => boolK (Nat.beq cs.length ti.size) (storeK h b' o cs ks) none) ((srcF sx).f r l).cells) = some res from hr)
        dsimp only at hr
        rw [boolK_eq] at hr
        cases hn : Nat.beq ((srcF sx).f r l).cells.length ti.size with
        | false => rw [hn] at hr; cases hr
        | true =>
          rw [hn, cond_true] at hr
          obtain ⟨h', hs, hr⟩ := storeK_some hr
          exact ⟨h', by simp only [evOp, evStore, ha, hb, h1, hx, hn, cond_true, hs, Option.map_some], hr⟩
      cases hz : Nat.beq ti.size 1 with
      | false =>
        rw [hz, cond_false] at hi
        simp only [Option.some.injEq] at hi
        subst hi
        exact many
      | true =>
        rw [hz, cond_true] at hi
        split at hi
        · simp only [Option.some.injEq] at hi
          subst hi
          intro ks res hr
          obtain ⟨b, o, hb, hr⟩ := onPtr_some (show onPtr ((srcF sa).f r l) (fun b' o => (fun v => boolK v.one (cellsK h b' fun cs e x => setK cs o v fun cs' => h.putK b' (some (.cells cs' e x)) ks) none) ((srcF sx).f r l)) = some res from hr)
          dsimp only at hr
          rw [boolK_eq] at hr
          cases hone : ((srcF sx).f r l).one with
          | false => rw [hone] at hr; cases hr
          | true =>
            rw [hone, cond_true] at hr
            obtain ⟨cs, e, xx, hg, hr⟩ := cellsK_some hr
            obtain ⟨cs', hsp, hr⟩ := setK_some hr
            obtain ⟨h', hp, hr⟩ := FH.putK_some hr
            refine ⟨h', ?_, hr⟩
            rw [Nat.beq_eq] at hz
            have hc := one_cells hone
            simp only [evOp, evStore, ha, hb, h1, hx, hc, List.length_cons, List.length_nil, hz, Nat.zero_add, Nat.beq_refl, cond_true, evStoreC, allOne, hone, Bool.and_self, hg, hsp, forceL_eq, hp, Option.map_some]
        · simp only [Option.some.injEq] at hi
          subst hi
          exact many
    · cases hi
  case binOp bop t x y yt =>
    simp only [insOf] at hi
    split at hi
    · rename_i ti hti
      split at hi
      · rename_i K sa sb h1 h2 h3
        simp only [Option.some.injEq] at hi
        subst hi
        have hx := k x sa h2
        have hy := k y sb h3
        intro kv res hr
        rcases bin_ok bop K T t _ _ _ _ res (show (binF bop K).f ((srcF sa).f r l) ((srcF sb).f r l) (fun v => kv v h) (match (match evBin T bop t ((srcF sa).f r l) ((srcF sb).f r l) with
          | some v => some v
          | none => nilEq T bop t x y ((srcF sa).f r l) ((srcF sb).f r l)) with
        | some v => forceA v fun v => kv v h
        | none => none) = some res from hr) with ⟨v, hv, hr⟩ | hr
        · exact ⟨v, h, by simp only [evOp, hx, hy, hv, R.pure], hr⟩
        · cases hb : evBin T bop t ((srcF sa).f r l) ((srcF sb).f r l) with
          | some u =>
            rw [hb] at hr
            dsimp only at hr
            rw [forceA_eq] at hr
            exact ⟨u, h, by simp only [evOp, hx, hy, hb, R.pure], hr⟩
          | none =>
            rw [hb] at hr
            dsimp only at hr
            split at hr
            · rename_i v hv
              rw [forceA_eq] at hr
              exact ⟨v, h, by simp only [evOp, hx, hy, hb, hv, R.pure], hr⟩
            · cases hr
      · exact gen hi
    · cases hi
  case convert s d x =>
    simp only [insOf] at hi
    split at hi
    · rename_i si di hs hd
      split at hi
      · rename_i K sa h1 h2
        simp only [Option.some.injEq] at hi
        subst hi
        have hx := k x sa h2
        intro kv res hr
        rcases conv_some (show (convF K).f ((srcF sa).f r l) (fun v => kv v h) (match evConvert T s d ((srcF sa).f r l) with
        | some v => forceA v fun v => kv v h
        | none => none) = some res from hr) with ⟨k', n, hv, hr⟩ | hr
        · exact ⟨_, h, by simp only [evOp, hx, hv, evConvert, hs, hd, h1, R.pure], hr⟩
        · split at hr
          · rename_i v hv
            rw [forceA_eq] at hr
            exact ⟨v, h, by simp only [evOp, hx, hv, R.pure], hr⟩
          · cases hr
      · exact gen hi
    · cases hi
  case indexAddr t x i =>
    simp only [insOf] at hi
    split at hi
    · rename_i ti hti
      split at hi
      · rename_i e he
        split at hi
        · rename_i te sa sb h1 h2 h3
          simp only [Option.some.injEq] at hi
          subst hi
          have hx := k x sa h2
          have hii := k i sb h3
          intro kv res hr
          rcases onSlice_some (show onSlice ((srcF sa).f r l) (fun b o n => (onInt ((srcF sb).f r l) (fun _ z => Int.rec (motive := fun _ => R') (fun m => boolK (Nat.blt m n) (forceK (Nat.add o (Nat.mul m te.size)) fun o' => kv (.ptr b o') h) none) (fun _ => none) z) none)) none = some res from hr) with ⟨b, o, n, cp, hs, hr⟩ | hr
          · rcases onInt_some hr with ⟨K, z, hz, hr⟩ | hr
            · cases z with
              | negSucc z => cases hr
              | ofNat m =>
                have hr2 : boolK (Nat.blt m n) (forceK (Nat.add o (Nat.mul m te.size)) fun o' => kv (.ptr b o') h) none = some res := hr
                rw [boolK_eq] at hr2
                cases hlt : Nat.blt m n with
                | false => rw [hlt] at hr2; cases hr2
                | true =>
                  rw [hlt, cond_true, forceK_eq] at hr2
                  exact ⟨_, h, by simp only [evOp, evIndexAddr, hx, hii, hs, hz, hti, he, inRange, hlt, cond_true, h1, R.pure]; rfl, hr2⟩
            · cases hr
          · cases hr
        · cases hi
      · exact gen hi
    · cases hi
  case fieldAddr s x f =>
    simp only [insOf] at hi
    split at hi
    · rename_i si hsi
      split at hi
      · rename_i fs hfs
        split at hi
        · rename_i off t hft
          split at hi
          · rename_i j sa h1 h2
            cases hz : Nat.beq j.size 0 with
            | true => rw [hz] at hi; cases hi
            | false =>
              rw [hz, cond_false] at hi
              simp only [Option.some.injEq] at hi
              subst hi
              have hx := k x sa h2
              intro kv res hr
              obtain ⟨b, o, hb, hr⟩ := onPtr_some (show onPtr ((srcF sa).f r l) (fun b o => forceK (Nat.add o off) fun o' => kv (.ptr b o') h) = some res from hr)
              rw [forceK_eq] at hr
              exact ⟨_, h, by simp only [evOp, evFieldAddr, hx, hb, hsi, hfs, hft, h1, hz, cond_false, R.pure]; rfl, hr⟩
          · cases hi
        · cases hi
      · cases hi
    · cases hi
  case extract t i =>
    simp only [insOf, Option.map_eq_some_iff] at hi
    obtain ⟨s, hs, rfl⟩ := hi
    have hx := k t s hs
    intro kv res hr
    obtain ⟨vs, hvs, hr⟩ := onTuple_some (show onTuple ((srcF s).f r l) (fun vs => nthK vs i fun v => kv v h) = some res from hr)
    obtain ⟨v, hv, hr⟩ := nthK_some hr
    exact ⟨v, h, by simp only [evOp, hx, hvs, hv, R.pure], hr⟩
  case call cl =>
    simp only [insOf] at hi
    split at hi
    · rename_i f hc
      split at hi
      · rename_i fn hfn
        simp only [Option.map_eq_some_iff] at hi
        obtain ⟨ss, hs, rfl⟩ := hi
        have hv := lookA_vals k hs
        have hf : ev (.func f) = .func (.func f) [] [] := k (.func f) _ rfl
        intro kc res hr
        refine ⟨f, vals ss r l, ?_, hr⟩
        simp only [evOp, evCallOp, hc, hf, hfn, hv, List.nil_append, List.append_nil]
      · cases hi
    · rename_i f _ hc
      split at hi
      · rename_i sf ss h1 h2
        simp only [Option.some.injEq] at hi
        subst hi
        have hv := lookA_vals k h2
        have hf := k f sf h1
        intro kc res hr
        obtain ⟨g, a, b, hg, hr⟩ := onFunc_some (show onFunc ((srcF sf).f r l) (fun g a b => callK2 T g ((a ++ vals ss r l) ++ b) kc) = some res from hr)
        unfold callK2 at hr
        rw [boolK_eq] at hr
        cases hfn : T.funs.get g with
        | none => rw [hfn] at hr; cases hr
        | some fn =>
          rw [hfn] at hr
          refine ⟨g, _, ?_, hr⟩
          simp only [evOp, evCallOp, hc, hf, hg, hfn, hv]
      · cases hi
    · rename_i hc
      split at hi
      · rename_i t ts x xs hts hxs
        split at hi
        · rename_i ti hti
          split at hi
          · rename_i e he
            simp only [Option.map_eq_some_iff] at hi
            obtain ⟨s, hs, rfl⟩ := hi
            have hx := k x s hs
            intro kv res hr
            rcases onSlice_some (show onSlice ((srcF s).f r l) (fun _ _ n => kv (.flat (.int .i64 (.ofNat n))) h) (match evLen T t ((srcF s).f r l) with
      | some v => forceA v fun v => kv v h
      | none => none) = some res from hr) with ⟨b, o, n, cp, hsl, hr⟩ | hr
            · exact ⟨_, h, by simp only [evOp, evCallOp, hc, evBuiltin, hts, hxs, List.map_cons, hx, hsl, len_of_slice hti he, R.pure], hr⟩
            · split at hr
              · rename_i v hv
                rw [forceA_eq] at hr
                exact ⟨v, h, by simp only [evOp, evCallOp, hc, evBuiltin, hts, hxs, List.map_cons, hx, hv, R.pure], hr⟩
              · cases hr
          · exact gen hi
        · cases hi
      · cases hi
    · exact gen hi
  all_goals exact gen hi
end
section
variable {res : AEnd × FH}

structure NlOk (nl : List (Nat × Nat)) : Prop where
  lt : ∀ t k, assoc nl t = some k → k < 64
  inj : ∀ t t' k, assoc nl t = some k → assoc nl t' = some k → t = t'
def SrcOk (nl : List (Nat × Nat)) (full : List Oper) (d : Nat) : Src → Prop
  | .loc a => a < d
  | .reg k => k < 64 ∧ writes nl k full = false
  | .con _ => True
structure Rel (nl : List (Nat × Nat)) (full : List Oper) (n : Nat) (c : CS) (r : RF) (l : List AV) (s : St) (h : FH) : Prop where
  reg : ∀ t k, assoc nl t = some k → s.slot t = (acc k).get r
  env : ∀ t src, assoc c.env t = some src → assoc nl t = none ∧ SrcOk nl full c.d src ∧ s.slot t = (srcF (relS c.d src)).f r l
  len : l.length = c.d
  sn : s.n = n
  ds : s.ds = []
  hp : s.h = h.abs

theorem St.ev_tmp (s : St) (t : Nat) : s.ev (.tmp t) = s.slot t := rfl
theorem Rel.look {nl : List (Nat × Nat)} {full : List Oper} {n : Nat} {c : CS} {r : RF} {l : List AV} {s : St} {h : FH} (k : Rel nl full n c r l s h) : LookOk nl c s.ev r l := by
  intro x src hx
  cases x with
  | tmp t =>
    simp only [CS.look] at hx
    rw [St.ev_tmp]
    split at hx
    · rename_i s0 hs
      injection hx with hx
      subst hx
      exact (k.env t s0 hs).2.2
    · split at hx
      · rename_i kk hk
        injection hx with hx
        subst hx
        exact k.reg t kk hk
      · cases hx
  | const v => simp only [CS.look, Option.some.injEq] at hx; subst hx; rfl
  | global g => simp only [CS.look, Option.some.injEq] at hx; subst hx; rfl
  | func f => simp only [CS.look, Option.some.injEq] at hx; subst hx; rfl

theorem src_push {nl : List (Nat × Nat)} {full : List Oper} {d : Nat} {src : Src} (k : SrcOk nl full d src) (r : RF) (l : List AV) (v : AV) (hl : l.length = d) : (srcF (relS (d + 1) src)).f r (v :: l) = (srcF (relS d src)).f r l := by
  cases src with
  | loc a =>
    simp only [SrcOk] at k
    simp only [relS, srcF]
    rw [locF_eq, locF_eq]
    have : d + 1 - 1 - a = (d - 1 - a) + 1 := by omega
    rw [this]
    rfl
  | reg k' => rfl
  | con v => rfl
theorem srcOk_push {nl : List (Nat × Nat)} {full : List Oper} {d : Nat} {src : Src} (k : SrcOk nl full d src) : SrcOk nl full (d + 1) src := by
  cases src with
  | loc a => simp only [SrcOk] at k ⊢; omega
  | reg k' => exact k
  | con v => trivial
theorem writes_of {nl : List (Nat × Nat)} {k t : Nat} {o : Oper} : ∀ {full : List Oper}, o ∈ full → o.dst = some t → assoc nl t = some k → writes nl k full = true
  | [], hm, _, _ => by cases hm
  | o' :: full, hm, hd, ha => by
    simp only [writes, Bool.or_eq_true]
    rcases List.mem_cons.1 hm with e | hm
    · subst e
      left
      rw [hd]
      simp only [ha, Nat.beq_refl]
    · exact .inr (writes_of hm hd ha)
theorem src_set {nl : List (Nat × Nat)} {full : List Oper} {d k : Nat} {src : Src} (hk : k < 64) (hw : writes nl k full = true) (so : SrcOk nl full d src) (r : RF) (l : List AV) (v : AV) : (srcF (relS d src)).f ((acc k).set r v) l = (srcF (relS d src)).f r l := by
  cases src with
  | loc a => simp only [relS, srcF]; rw [locF_eq, locF_eq]
  | con v => rfl
  | reg k' =>
    simp only [SrcOk] at so
    show (acc k').get ((acc k).set r v) = (acc k').get r
    rw [acc_get_set r v so.1 hk, if_neg]
    intro e
    subst e
    rw [so.2] at hw
    cases hw

def DstOk (nl : List (Nat × Nat)) (n : Nat) (o : Oper) (d : Dst) (c c' : CS) : Prop :=
  (o.dst = none ∧ d = .no ∧ c' = c) ∨ ∃ t, o.dst = some t ∧ Nat.blt t n = true ∧ ((∃ k, assoc nl t = some k ∧ d = .set k ∧ c' = c) ∨ (assoc nl t = none ∧ d = .push ∧ c' = ⟨c.d + 1, (t, .loc c.d) :: c.env⟩))

theorem slot_upd (s : St) (t : Nat) (v : AV) (h : Hp) (t' : Nat) : (⟨upd s.tm t (some v), s.n, h, s.ds⟩ : St).slot t' = if t' = t then v else s.slot t' := by
  simp only [St.slot, upd_get]
  by_cases e : t' = t <;> simp [e]
theorem put_rel {nl : List (Nat × Nat)} {full : List Oper} {n : Nat} {c c' : CS} {r : RF} {l : List AV} {s : St} {h : FH} {o : Oper} {d : Dst} (k : Rel nl full n c r l s h) (hn : NlOk nl) (ho : o ∈ full) (hd : DstOk nl n o d c c') (v : AV) (h' : FH) :
    ∃ s', s.put o.dst v h'.abs = some s' ∧ ∀ (kn : KN) (es : List Ent) (res : AEnd × FH), (dstF d).f kn v r l es h' = some res → ∃ r' l', Rel nl full n c' r' l' s' h' ∧ kn r' l' es h' = some res := by
  rcases hd with ⟨h1, rfl, rfl⟩ | ⟨t, h1, hb, ⟨kk, h2, rfl, rfl⟩ | ⟨h2, rfl, rfl⟩⟩
  · refine ⟨⟨s.tm, s.n, h'.abs, s.ds⟩, by rw [h1]; rfl, fun kn es res hr => ⟨r, l, ⟨k.reg, k.env, k.len, k.sn, k.ds, rfl⟩, hr⟩⟩
  · refine ⟨⟨upd s.tm t (some v), s.n, h'.abs, s.ds⟩, by rw [h1]; simp only [St.put, k.sn, hb, cond_true], fun kn es res hr => ⟨(acc kk).set r v, l, ⟨fun t' k' ht' => ?_, fun t' src hs => ?_, k.len, k.sn, k.ds, rfl⟩, hr⟩⟩
    · rw [slot_upd, acc_get_set r v (hn.lt t' k' ht') (hn.lt t kk h2)]
      by_cases e : t' = t
      · subst e
        rw [h2] at ht'
        injection ht' with e2
        rw [if_pos rfl, if_pos e2.symm]
      · rw [if_neg e, if_neg]
        · exact k.reg t' k' ht'
        · intro e2
          subst e2
          exact e (hn.inj t' t k' ht' h2)
    · obtain ⟨g1, g2, g3⟩ := k.env t' src hs
      refine ⟨g1, g2, ?_⟩
      rw [slot_upd, if_neg, g3, src_set (hn.lt t kk h2) (writes_of ho h1 h2) g2]
      intro e
      subst e
      rw [h2] at g1
      cases g1
  · refine ⟨⟨upd s.tm t (some v), s.n, h'.abs, s.ds⟩, by rw [h1]; simp only [St.put, k.sn, hb, cond_true], fun kn es res hr => ⟨r, v :: l, ⟨fun t' k' ht' => ?_, fun t' src hs => ?_, by simp [k.len], k.sn, k.ds, rfl⟩, hr⟩⟩
    · rw [slot_upd, if_neg]
      · exact k.reg t' k' ht'
      · intro e
        subst e
        rw [h2] at ht'
        cases ht'
    · simp only [assoc] at hs
      cases e : Nat.beq t t' with
      | true =>
        rw [e, cond_true] at hs
        injection hs with hs
        subst hs
        rw [Nat.beq_eq] at e
        subst e
        refine ⟨h2, by simp [SrcOk], ?_⟩
        rw [slot_upd, if_pos rfl]
        simp only [relS, srcF, Nat.add_sub_cancel, Nat.sub_self]
        rfl
      | false =>
        rw [e, cond_false] at hs
        obtain ⟨g1, g2, g3⟩ := k.env t' src hs
        refine ⟨g1, srcOk_push g2, ?_⟩
        rw [slot_upd, if_neg, g3, src_push g2 r l v k.len]
        intro e2
        subst e2
        rw [Nat.beq_refl] at e
        cases e

/-! ### the guard -/
theorem wanted_none {full : List Oper} {s : St} {o : Oper} (h : o.guard = none) : s.wanted full o = true := by simp only [St.wanted, h]
theorem guard_want {nl : List (Nat × Nat)} {full : List Oper} {n : Nat} {c : CS} {r : RF} {l : List AV} {s : St} {h : FH} {o : Oper} {g : Src} {w : Bool} (k : Rel nl full n c r l s h) (hg : guardOf nl full c o = some (some (g, w))) :
    s.wanted full o = wantV ((srcF g).f r l) w := by
  unfold guardOf at hg
  split at hg
  · cases hg
  · rename_i j want hgu
    split at hg
    · cases hg
    · rename_i oj hj
      split at hg
      · cases hg
      · rename_i dj hdj
        split at hg
        · rename_i g' hl
          simp only [Option.some.injEq, Prod.mk.injEq] at hg
          obtain ⟨rfl, rfl⟩ := hg
          have h1 := k.look _ _ hl
          rw [St.ev_tmp] at h1
          rw [← h1]
          simp only [St.wanted, hgu, hj, hdj, St.slot]
          cases hs : s.tm dj with
          | none => rfl
          | some v => cases v with
            | flat u => cases u <;> rfl
            | _ => rfl
        · cases hg
theorem guard_none {nl : List (Nat × Nat)} {full : List Oper} {c : CS} {o : Oper} (hg : guardOf nl full c o = some none) : o.guard = none := by
  unfold guardOf at hg
  split at hg
  · assumption
  · split at hg
    · cases hg
    · split at hg
      · cases hg
      · split at hg
        · simp at hg
        · cases hg

/-! ### calls -/
def CallSim (ck : CallK) (cs : CallF) : Prop := ∀ f args h k res, ck f args h k = some res → ∃ e h', cs f args h.abs = some (e, FH.abs h') ∧ k e h' = some res

/-- How a compiled operation runs, whatever its guard. -/
theorem gF_cases {T : Tab} {x : GI} {ck : CallK} {r : RF} {l : List AV} {es : List Ent} {h : FH} {k : KN} {kx : KX} (hr : (gF T x).f ck r l es h k kx = some res) :
    (x.guard = none ∧ (opF T x.ins x.dst x.draw).f ck r l es h k kx = some res) ∨
    ∃ g w, x.guard = some (g, w) ∧ ((wantV ((srcF g).f r l) w = true ∧ (opF T x.ins x.dst x.draw).f ck r l es h k kx = some res) ∨ (wantV ((srcF g).f r l) w = false ∧ (dstF x.dst).f k dflt r l es h = some res)) := by
  obtain ⟨gd, i, d, dr⟩ := x
  cases gd with
  | none => exact .inl ⟨rfl, hr⟩
  | some p =>
    obtain ⟨g, w⟩ := p
    right
    refine ⟨g, w, rfl, ?_⟩
    cases w with
    | true =>
      rcases onGuard_some (show onGuard ((srcF g).f r l) ((opF T i d dr).f ck r l es h k kx) ((dstF d).f k dflt r l es h) ((dstF d).f k dflt r l es h) = some res from hr) with ⟨b, hb, hr⟩ | ⟨hb, hr⟩
      · rw [hb]
        cases b
        · exact .inr ⟨rfl, hr⟩
        · exact .inl ⟨rfl, hr⟩
      · exact .inr ⟨hb _, hr⟩
    | false =>
      rcases onGuard_some (show onGuard ((srcF g).f r l) ((dstF d).f k dflt r l es h) ((opF T i d dr).f ck r l es h k kx) ((dstF d).f k dflt r l es h) = some res from hr) with ⟨b, hb, hr⟩ | ⟨hb, hr⟩
      · rw [hb]
        cases b
        · exact .inl ⟨rfl, hr⟩
        · exact .inr ⟨rfl, hr⟩
      · exact .inr ⟨hb _, hr⟩

/-- one operation in order -/
theorem plain_op {T : Tab} {nl : List (Nat × Nat)} {full : List Oper} {n : Nat} {c c' : CS} {r : RF} {l : List AV} {s : St} {h : FH} {o : Oper} {i : Ins} {g : Option (Src × Bool)} {d : Dst} {ck : CallK} {cs : CallF} (hcs : CallSim ck cs)
    (k : Rel nl full n c r l s h) (hn : NlOk nl) (ho : o ∈ full) (hg : guardOf nl full c o = some g) (hi : insOf T nl c o = some i) (hd : DstOk nl n o d c c') {es : List Ent} {kn : KN} {kx : KX}
    (hr : (gF T ⟨g, i, d, .plain⟩).f ck r l es h kn kx = some res) :
    (∃ s' r' l' h', evOps cs T full [o] s = some (.normal, s') ∧ Rel nl full n c' r' l' s' h' ∧ kn r' l' es h' = some res) ∨ ∃ v s' r' h', evOps cs T full [o] s = some (.panic v, s') ∧ s'.ds = [] ∧ s'.h = FH.abs h' ∧ kx v r' h' = some res := by
  have off : s.wanted full o = false → (dstF d).f kn dflt r l es h = some res → (∃ s' r' l' h', evOps cs T full [o] s = some (.normal, s') ∧ Rel nl full n c' r' l' s' h' ∧ kn r' l' es h' = some res) := fun hw hr => by
    obtain ⟨s', hp, hk⟩ := put_rel k hn ho hd dflt h
    obtain ⟨r', l', hrel, hr⟩ := hk kn es res hr
    refine ⟨s', r', l', h, ?_, hrel, hr⟩
    rw [← k.hp] at hp
    simp only [evOps, hw, cond_false]
    show (match s.put o.dst dflt s.h with
      | some s => some (AExit.normal, s)
      | none => none) = _
    rw [hp]
  have on : s.wanted full o = true → (plainF (dstF d) (insF T i)).f ck r l es h kn kx = some res → ((∃ s' r' l' h', evOps cs T full [o] s = some (.normal, s') ∧ Rel nl full n c' r' l' s' h' ∧ kn r' l' es h' = some res) ∨ ∃ v s' r' h', evOps cs T full [o] s = some (.panic v, s') ∧ s'.ds = [] ∧ s'.h = FH.abs h' ∧ kx v r' h' = some res) := fun hw hr => by
    have hk := insOf_ok (h := h) k.look hi
    cases hx : insF T i with
    | v x =>
      rw [hx] at hr hk
      obtain ⟨v, h', he, hr⟩ := hk _ _ (show x.f r l h (fun v h' => (dstF d).f kn v r l es h') = some res from hr)
      obtain ⟨s', hp, hq⟩ := put_rel k hn ho hd v h'
      obtain ⟨r', l', hrel, hr⟩ := hq kn es res hr
      exact Or.inl ⟨s', r', l', h', by simp only [evOps, hw, cond_true, k.hp, he, hp], hrel, hr⟩
    | s x =>
      rw [hx] at hr hk
      obtain ⟨h', he, hr⟩ := hk _ _ (show x.f r l h (fun h' => (dstF d).f kn dflt r l es h') = some res from hr)
      obtain ⟨s', hp, hq⟩ := put_rel k hn ho hd dflt h'
      obtain ⟨r', l', hrel, hr⟩ := hq kn es res hr
      refine Or.inl ⟨s', r', l', h', ?_, hrel, hr⟩
      simp only [evOps, hw, cond_true, k.hp, he]
      show (match s.put o.dst dflt h'.abs with
        | some s => some (AExit.normal, s)
        | none => none) = _
      rw [hp]
    | n x =>
      rw [hx] at hr hk
      rcases hk _ _ _ (show x.f r l h (fun v h' => (dstF d).f kn v r l es h') (fun v => kx v r h) = some res from hr) with ⟨v, h', he, hr⟩ | ⟨v, he, hr⟩
      · obtain ⟨s', hp, hq⟩ := put_rel k hn ho hd v h'
        obtain ⟨r', l', hrel, hr⟩ := hq kn es res hr
        exact Or.inl ⟨s', r', l', h', by simp only [evOps, hw, cond_true, k.hp, he, hp], hrel, hr⟩
      · exact Or.inr ⟨v, s, r, h, by simp only [evOps, hw, cond_true, k.hp, he], k.ds, k.hp, hr⟩
    | e x =>
      rw [hx] at hr hk
      obtain ⟨f, args, he, hr⟩ := hk _ _ (show x.f r l (fun f args => ck f args h (retP (dstF d) kn kx r l es)) = some res from hr)
      obtain ⟨e, h', hc, hr⟩ := hcs _ _ _ _ _ hr
      cases e with
      | ret v =>
        obtain ⟨s', hp, hq⟩ := put_rel k hn ho hd v h'
        obtain ⟨r', l', hrel, hr⟩ := hq kn es res hr
        exact Or.inl ⟨s', r', l', h', by simp only [evOps, hw, cond_true, k.hp, he, hc, hp], hrel, hr⟩
      | pan v => exact Or.inr ⟨v, ⟨s.tm, s.n, h'.abs, s.ds⟩, r, h', by simp only [evOps, hw, cond_true, k.hp, he, hc], k.ds, rfl, hr⟩
  rcases gF_cases hr with ⟨h1, hr⟩ | ⟨gs, w, h1, ⟨hw, hr⟩ | ⟨hw, hr⟩⟩
  · dsimp only at h1
    subst h1
    exact on (wanted_none (guard_none hg)) hr
  · dsimp only at h1
    subst h1
    exact on (by rw [guard_want k hg]; exact hw) hr
  · dsimp only at h1
    subst h1
    exact .inl (off (by rw [guard_want k hg]; exact hw) hr)
end
section
variable {res : AEnd × FH}

def EntCls (c : Cls) (fp : Fp) (n0 n1 : Nat) : Prop :=
  (fp = .none ∧ n0 = n1) ∨ match c with
    | .quiet => False
    | .alloc => fp = .none
    | .rd => ∃ b, fp = .rd b
    | .wr => ∃ b, fp = .wr b
    | .call => fp = .call true
    | .bad => True

theorem newBlk_next {h h1 : Hp} {l : List AV} {t : TypeId} {x : Bool} (k : newBlk h l t x = some h1) : h1.next = h.next + 1 := by
  simp only [newBlk, forceL_eq] at k
  exact (Hp.new_get k).1
theorem cls_val {T : Tab} {e : Operand → AV} {h h1 : Hp} {o : Oper} {v : AV} (k : evOp T e h o = some (.val v h1)) : EntCls (clsOf o) (fpOf o e) h.next h1.next ∧ (clsOf o = .quiet → fpOf o e = .none ∧ h1.next = h.next) ∧ (clsOf o = .alloc → fpOf o e = .none ∧ h1.next = h.next + 1) := by
  obtain ⟨dst, op, ty, pos, after, guard⟩ := o
  have same : h1 = h → clsOf ⟨dst, op, ty, pos, after, guard⟩ = .quiet → fpOf ⟨dst, op, ty, pos, after, guard⟩ e = .none → EntCls (clsOf ⟨dst, op, ty, pos, after, guard⟩) (fpOf ⟨dst, op, ty, pos, after, guard⟩ e) h.next h1.next ∧ (clsOf ⟨dst, op, ty, pos, after, guard⟩ = .quiet → fpOf ⟨dst, op, ty, pos, after, guard⟩ e = .none ∧ h1.next = h.next) ∧ (clsOf ⟨dst, op, ty, pos, after, guard⟩ = .alloc → fpOf ⟨dst, op, ty, pos, after, guard⟩ e = .none ∧ h1.next = h.next + 1) := fun hh hc hf => by
    subst hh
    exact ⟨.inl ⟨hf, rfl⟩, fun _ => ⟨hf, rfl⟩, (fun he => by rw [hc] at he; cases he)⟩
  have made : clsOf ⟨dst, op, ty, pos, after, guard⟩ = .alloc → fpOf ⟨dst, op, ty, pos, after, guard⟩ e = .none → h1.next = h.next + 1 → EntCls (clsOf ⟨dst, op, ty, pos, after, guard⟩) (fpOf ⟨dst, op, ty, pos, after, guard⟩ e) h.next h1.next ∧ (clsOf ⟨dst, op, ty, pos, after, guard⟩ = .quiet → fpOf ⟨dst, op, ty, pos, after, guard⟩ e = .none ∧ h1.next = h.next) ∧ (clsOf ⟨dst, op, ty, pos, after, guard⟩ = .alloc → fpOf ⟨dst, op, ty, pos, after, guard⟩ e = .none ∧ h1.next = h.next + 1) := fun hc hf hn => by
    refine ⟨.inr (by rw [hc]; exact hf), (fun he => by rw [hc] at he; cases he), fun _ => ⟨hf, hn⟩⟩
  have plain : heapless op = true → h1 = h := fun hl => by
    have := evOp_heapless hl k h
    rw [k] at this
    injection this with this
    injection this
  have both : ∀ {x : Option (AV × Hp)}, R.both x = some (.val v h1) → x = some (v, h1) := fun {x} hx => by
    cases x with
    | none => simp [R.both] at hx
    | some y =>
      simp only [R.both, Option.some.injEq, R.val.injEq] at hx
      rw [← hx.1, ← hx.2]
  cases op
  case move x =>
    simp only [evOp, Option.some.injEq, R.val.injEq] at k
    exact same k.2.symm rfl rfl
  case assign x =>
    simp only [evOp, Option.some.injEq, R.val.injEq] at k
    exact same k.2.symm rfl rfl
  case load t a =>
    simp only [evOp] at k
    have : ∃ b off, e a = .ptr b off := by
      cases hl : evLoad T t (e a) h with
      | none => rw [hl] at k; simp [R.pure] at k
      | some u =>
        unfold evLoad at hl
        split at hl
        · rename_i b off hea
          exact ⟨b, off, hea⟩
        · cases hl
    obtain ⟨b, off, hea⟩ := this
    refine ⟨.inr ⟨b, by simp [fpOf, hea]⟩, (fun he => by cases he), (fun he => by cases he)⟩
  case store t a x =>
    simp only [evOp, Option.map_eq_some_iff] at k
    obtain ⟨_, _, k⟩ := k
    cases k
  case alloc t =>
    simp only [evOp] at k
    split at k
    · have k := both k
      simp only [Option.map_eq_some_iff, Prod.mk.injEq] at k
      obtain ⟨h2, hn, _, rfl⟩ := k
      exact made rfl rfl (newBlk_next hn)
    · cases k
  case box t x =>
    simp only [evOp] at k
    have k := both k
    simp only [Option.map_eq_some_iff, Prod.mk.injEq] at k
    obtain ⟨h2, hn, _, rfl⟩ := k
    exact made rfl rfl (newBlk_next hn)
  case buildSlice t len ps =>
    simp only [evOp] at k
    have k := both k
    unfold evBuildSlice at k
    split at k
    · split at k
      · split at k
        · have k := cond_some k
          split at k
          · simp only [Option.map_eq_some_iff, Prod.mk.injEq] at k
            obtain ⟨h2, hn, _, rfl⟩ := k
            exact made rfl rfl (newBlk_next hn)
          · cases k
        · cases k
      · cases k
    · cases k
  case makeSlice t a b =>
    simp only [evOp] at k
    have k := both k
    unfold evMakeSlice at k
    split at k
    · split at k
      · split at k
        · have k := cond_some k
          simp only [Option.map_eq_some_iff, Prod.mk.injEq] at k
          obtain ⟨h2, hn, _, rfl⟩ := k
          exact made rfl rfl (newBlk_next hn)
        · cases k
      · cases k
    · cases k
  case panic x =>
    simp only [evOp] at k
    split at k <;> cases k
  case defer cl =>
    simp only [evOp] at k
    split at k
    · split at k <;> cases k
    · cases k
  case call cl =>
    simp only [evOp, evCallOp] at k
    split at k
    · rename_i b hb
      have quietB : b ≠ .append ∧ b ≠ .copy → h1 = h := fun hne => by
        have := evBuiltin_heapless hne k h
        rw [k] at this
        injection this with this
        injection this
      by_cases hl : b = .len ∨ b = .max ∨ b = .min
      · have hh := quietB (by rcases hl with rfl | rfl | rfl <;> exact ⟨by simp, by simp⟩)
        refine same hh ?_ ?_
        · rcases hl with rfl | rfl | rfl <;> simp [clsOf, hb]
        · rcases hl with rfl | rfl | rfl <;> simp [fpOf, hb]
      · have hc : clsOf ⟨dst, .call cl, ty, pos, after, guard⟩ = .bad := by
          simp only [clsOf, hb]
          cases b <;> first | rfl | simp at hl
        exact ⟨.inr (by rw [hc]; trivial), (fun he => by rw [hc] at he; cases he), (fun he => by rw [hc] at he; cases he)⟩
    · split at k
      · split at k <;> cases k
      · cases k
    · cases k
  all_goals first
    | exact same (plain rfl) rfl rfl
    | (simp only [evOp] at k; cases k)
theorem cls_skip {T : Tab} {e : Operand → AV} {h h1 : Hp} {o : Oper} (k : evOp T e h o = some (.skip h1)) : clsOf o = .wr ∧ ∃ b, fpOf o e = .wr b := by
  obtain ⟨t, a, x, b, off, h1, _, _, h2⟩ := evOp_skip k
  exact ⟨by simp [clsOf, h1], b, h2⟩
theorem cls_enter {T : Tab} {e : Operand → AV} {h : Hp} {o : Oper} {f : FuncId} {args : List AV} (k : evOp T e h o = some (.enter f args)) : clsOf o = .call := by
  obtain ⟨_, cl, hc⟩ := evOp_enter k h
  obtain ⟨dst, op, ty, pos, after, guard⟩ := o
  dsimp only at hc
  subst hc
  simp only [evOp, evCallOp] at k
  split at k
  · rename_i b hb
    exfalso
    have pure : ∀ (x : Option AV), R.pure h x ≠ some (.enter f args) := fun x => by cases x <;> simp [R.pure]
    have both : ∀ (x : Option (AV × Hp)), R.both x ≠ some (.enter f args) := fun x => by cases x <;> simp [R.both]
    unfold evBuiltin at k
    split at k
    all_goals first
      | (split at k <;> first
          | exact pure _ k
          | exact both _ k
          | cases k)
      | cases k
  · rename_i f' hb
    simp [clsOf, hb]
  · cases k

theorem lowK_eq (a b : Nat) (c : Nat → R') : lowK a b c = c (cond (Nat.blt a b) a b) := by
  unfold lowK
  rw [boolK_eq]
  cases Nat.blt a b <;> rfl

/-- In a region whose order is of no account. -/
theorem still_op {T : Tab} {nl : List (Nat × Nat)} {full : List Oper} {n : Nat} {c c' : CS} {r : RF} {l : List AV} {s : St} {h : FH} {o : Oper} {i : Ins} {g : Option (Src × Bool)} {d : Dst} {ck : CallK} {cs : CallF} (hcs : CallSim ck cs)
    (k : Rel nl full n c r l s h) (hn : NlOk nl) (ho : o ∈ full) (hg : guardOf nl full c o = some g) (hi : insOf T nl c o = some i) (hd : DstOk nl n o d c c') {es : List Ent} {kn : KN} {kx : KX} {dr : Dr} (hdr : dr = .still ∨ ∃ j, dr = .looked j .quiet)
    (hr : (gF T ⟨g, i, d, dr⟩).f ck r l es h kn kx = some res) :
    ∃ s' fp r' l' h', drawOp cs T full s o = some (s', fp) ∧ Rel nl full n c' r' l' s' h' ∧ kn r' l' es h' = some res ∧ EntCls (clsOf o) fp s.h.next s'.h.next := by
  have hop : opF T i d dr = stillF (dstF d) (insF T i) := by rcases hdr with rfl | ⟨j, rfl⟩ <;> rfl
  have off : s.wanted full o = false → (dstF d).f kn dflt r l es h = some res → (∃ s' fp r' l' h', drawOp cs T full s o = some (s', fp) ∧ Rel nl full n c' r' l' s' h' ∧ kn r' l' es h' = some res ∧ EntCls (clsOf o) fp s.h.next s'.h.next) := fun hw hr => by
    obtain ⟨s', hp, hk⟩ := put_rel k hn ho hd dflt h
    obtain ⟨r', l', hrel, hr⟩ := hk kn es res hr
    rw [← k.hp] at hp
    refine ⟨s', .none, r', l', h, ?_, hrel, hr, .inl ⟨rfl, by rw [(St.put_h hp).1]⟩⟩
    simp only [drawOp, hw, cond_false]
    show (match s.put o.dst dflt s.h with
      | some s' => some (s', Fp.none)
      | none => none) = _
    rw [hp]
  have on : s.wanted full o = true → (stillF (dstF d) (insF T i)).f ck r l es h kn kx = some res → (∃ s' fp r' l' h', drawOp cs T full s o = some (s', fp) ∧ Rel nl full n c' r' l' s' h' ∧ kn r' l' es h' = some res ∧ EntCls (clsOf o) fp s.h.next s'.h.next) := fun hw hr => by
    have hk := insOf_ok (h := h) k.look hi
    cases hx : insF T i with
    | v x =>
      rw [hx] at hr hk
      obtain ⟨v, h', he, hr⟩ := hk _ _ (show x.f r l h (fun v h' => (dstF d).f kn v r l es h') = some res from hr)
      obtain ⟨s', hp, hq⟩ := put_rel k hn ho hd v h'
      obtain ⟨r', l', hrel, hr⟩ := hq kn es res hr
      exact ⟨s', fpOf o s.ev, r', l', h', by simp only [drawOp, hw, cond_true, k.hp, he, hp], hrel, hr, by rw [(St.put_h hp).1, k.hp]; exact (cls_val he).1⟩
    | s x =>
      rw [hx] at hr hk
      obtain ⟨h', he, hr⟩ := hk _ _ (show x.f r l h (fun h' => (dstF d).f kn dflt r l es h') = some res from hr)
      obtain ⟨s', hp, hq⟩ := put_rel k hn ho hd dflt h'
      obtain ⟨r', l', hrel, hr⟩ := hq kn es res hr
      obtain ⟨hc, b, hf⟩ := cls_skip he
      refine ⟨s', fpOf o s.ev, r', l', h', ?_, hrel, hr, .inr (by rw [hc]; exact ⟨b, hf⟩)⟩
      simp only [drawOp, hw, cond_true, k.hp, he]
      show (match s.put o.dst dflt h'.abs with
        | some s' => some (s', fpOf o s.ev)
        | none => none) = _
      rw [hp]
    | n x =>
      rw [hx] at hr hk
      rcases hk _ _ _ (show x.f r l h (fun v h' => (dstF d).f kn v r l es h') (fun _ => none) = some res from hr) with ⟨v, h', he, hr⟩ | ⟨v, he, hr⟩
      · obtain ⟨s', hp, hq⟩ := put_rel k hn ho hd v h'
        obtain ⟨r', l', hrel, hr⟩ := hq kn es res hr
        exact ⟨s', fpOf o s.ev, r', l', h', by simp only [drawOp, hw, cond_true, k.hp, he, hp], hrel, hr, by rw [(St.put_h hp).1, k.hp]; exact (cls_val he).1⟩
      · cases hr
    | e x =>
      rw [hx] at hr hk
      obtain ⟨f, args, he, hr⟩ := hk _ _ (show x.f r l (fun f args => ck f args ⟨h.next, h.next, h.m⟩ (retS (dstF d) kn r l es h.next h.low)) = some res from hr)
      obtain ⟨e, h', hc, hr⟩ := hcs _ _ _ _ _ hr
      cases e with
      | ret v =>
        have hr : boolK (Nat.ble h.next h'.low) (lowK h'.low h.low fun low => (dstF d).f kn v r l es ⟨h'.next, low, h'.m⟩) none = some res := hr
        rw [boolK_eq] at hr
        cases hb : Nat.ble h.next h'.low with
        | false => rw [hb] at hr; cases hr
        | true =>
          rw [hb, cond_true, lowK_eq] at hr
          obtain ⟨s', hp, hq⟩ := put_rel k hn ho hd v ⟨h'.next, cond (Nat.blt h'.low h.low) h'.low h.low, h'.m⟩
          obtain ⟨r', l', hrel, hr⟩ := hq kn es res hr
          refine ⟨s', .call true, r', l', _, ?_, hrel, hr, .inr (by rw [cls_enter he])⟩
          have hc2 : cs f args ⟨h.abs.next, h.abs.next, h.abs.m⟩ = some (.ret v, h'.abs) := hc
          simp only [drawOp, hw, cond_true, k.hp, he, hc2]
          have e1 : (⟨h'.abs.next, cond (Nat.blt h'.abs.low h.abs.low) h'.abs.low h.abs.low, h'.abs.m⟩ : Hp) = FH.abs ⟨h'.next, cond (Nat.blt h'.low h.low) h'.low h.low, h'.m⟩ := rfl
          rw [e1, hp]
          show some (s', Fp.call (Nat.ble h.next h'.low)) = _
          rw [hb]
      | pan v => cases hr
  rcases gF_cases hr with ⟨h1, hr⟩ | ⟨gs, w, h1, ⟨hw, hr⟩ | ⟨hw, hr⟩⟩
  · dsimp only at h1
    subst h1
    exact on (wanted_none (guard_none hg)) (by rw [← hop]; exact hr)
  · dsimp only at h1
    subst h1
    exact on (by rw [guard_want k hg]; exact hw) (by rw [← hop]; exact hr)
  · dsimp only at h1
    subst h1
    exact off (by rw [guard_want k hg]; exact hw) hr
end
section
variable {res : AEnd × FH}

theorem fpM_quiet {nl : List (Nat × Nat)} {c : CS} {o : Oper} (h : fpM nl c o = some .quiet) : clsOf o = .quiet := by
  obtain ⟨dst, op, ty, pos, after, guard⟩ := o
  cases op <;> simp only [fpM, Option.map_eq_some_iff] at h <;> first
    | rfl
    | (obtain ⟨_, _, h⟩ := h; cases h)
    | (cases h; done)
    | skip
  case call cl =>
    simp only [clsOf]
    split at h <;> rename_i hc <;> simp only [hc]
    · split at h <;> cases h
    · split at h <;> cases h
    · cases h
    · rename_i h1
      cases hc2 : cl.callee with
      | builtin b => cases b <;> simp_all
      | _ => cases h
theorem fpM_call {nl : List (Nat × Nat)} {c : CS} {o : Oper} {m : FpM} (h : fpM nl c o = some m) (hc : clsOf o = .call) : m = .call := by
  obtain ⟨dst, op, ty, pos, after, guard⟩ := o
  cases op <;> try (cases hc; done)
  case call cl =>
    simp only [clsOf] at hc
    simp only [fpM] at h
    cases hc2 : cl.callee with
    | builtin b => rw [hc2] at hc; cases b <;> cases hc
    | _ => rw [hc2] at h; simp only [Option.some.injEq] at h; exact h.symm
/-- An operation that answers or writes: its footprint is told. -/
theorem fp_val {T : Tab} {nl : List (Nat × Nat)} {c : CS} {o : Oper} {ev : Operand → AV} {r : RF} {l : List AV} (k : LookOk nl c ev r l) {m : FpM} (hm : fpM nl c o = some m) (hq : m ≠ .quiet) {h h1 : Hp}
    (he : (∃ v, evOp T ev h o = some (.val v h1)) ∨ evOp T ev h o = some (.skip h1)) (n0 : Nat) (h' : FH) : (fpF m).f r l n0 h' = fpOf o ev ∧ ∀ j, isQuiet ⟨j, fpOf o ev, h.next, h1.next⟩ = false := by
  obtain ⟨dst, op, ty, pos, after, guard⟩ := o
  have made : clsOf ⟨dst, op, ty, pos, after, guard⟩ = .alloc → m = .alloc → (fpF m).f r l n0 h' = fpOf ⟨dst, op, ty, pos, after, guard⟩ ev ∧ ∀ j, isQuiet ⟨j, fpOf ⟨dst, op, ty, pos, after, guard⟩ ev, h.next, h1.next⟩ = false := fun hc hm => by
    subst hm
    rcases he with ⟨v, he⟩ | he
    · obtain ⟨h2, h3⟩ := (cls_val he).2.2 hc
      refine ⟨h2.symm, fun j => ?_⟩
      rw [h2, h3]
      simp only [isQuiet]
      cases hb : Nat.beq h.next (h.next + 1) with
      | false => rfl
      | true => rw [Nat.beq_eq] at hb; omega
    · have := (cls_skip he).1
      rw [hc] at this
      cases this
  cases op
  case load t a =>
    simp only [fpM, Option.map_eq_some_iff] at hm
    obtain ⟨s, hs, rfl⟩ := hm
    simp only [fpF, fpOf, k a s hs]
    cases (srcF s).f r l <;> exact ⟨rfl, fun _ => rfl⟩
  case store t a x =>
    simp only [fpM, Option.map_eq_some_iff] at hm
    obtain ⟨s, hs, rfl⟩ := hm
    simp only [fpF, fpOf, k a s hs]
    cases (srcF s).f r l <;> exact ⟨rfl, fun _ => rfl⟩
  case alloc t => simp only [fpM, Option.some.injEq] at hm; exact made rfl hm.symm
  case box t x => simp only [fpM, Option.some.injEq] at hm; exact made rfl hm.symm
  case buildSlice t n ps => simp only [fpM, Option.some.injEq] at hm; exact made rfl hm.symm
  case makeSlice t a b => simp only [fpM, Option.some.injEq] at hm; exact made rfl hm.symm
  case call cl =>
    cases hc : cl.callee with
    | builtin b =>
      have app : (∃ s x rest, c.lookA nl cl.args.toList = some (s :: x :: rest) ∧ FpM.app s x = m) → fpOf ⟨dst, .call cl, ty, pos, after, guard⟩ ev = appFp (cl.args.toList.map ev) → (fpF m).f r l n0 h' = fpOf ⟨dst, .call cl, ty, pos, after, guard⟩ ev ∧ ∀ j, isQuiet ⟨j, fpOf ⟨dst, .call cl, ty, pos, after, guard⟩ ev, h.next, h1.next⟩ = false := fun hm hf => by
        obtain ⟨s, x, rest, hl, rfl⟩ := hm
        rw [hf, lookA_vals k hl, vals_eq]
        exact ⟨rfl, fun _ => rfl⟩
      have two : (b = .append ∨ b = .copy) → ∃ s x rest, c.lookA nl cl.args.toList = some (s :: x :: rest) ∧ FpM.app s x = m := fun hb => by
        rcases hb with rfl | rfl
        · simp only [fpM, hc] at hm
          split at hm
          · rename_i s x rest hl
            simp only [Option.some.injEq] at hm
            exact ⟨s, x, rest, hl, hm⟩
          · cases hm
        · simp only [fpM, hc] at hm
          split at hm
          · rename_i s x rest hl
            simp only [Option.some.injEq] at hm
            exact ⟨s, x, rest, hl, hm⟩
          · cases hm
      cases b
      case append => exact app (two (.inl rfl)) (by simp only [fpOf, hc])
      case copy => exact app (two (.inr rfl)) (by simp only [fpOf, hc])
      all_goals first
        | (simp only [fpM, hc, Option.some.injEq] at hm; exact absurd hm.symm hq)
        | (simp only [fpM, hc] at hm; cases hm)
    | value f =>
      exfalso
      simp only [evOp, evCallOp, hc] at he
      rcases he with ⟨v, he⟩ | he
      · split at he
        · split at he <;> cases he
        · cases he
      · split at he
        · split at he <;> cases he
        · cases he
    | invoke a b =>
      exfalso
      simp only [evOp, evCallOp, hc] at he
      rcases he with ⟨v, he⟩ | he <;> cases he
  all_goals first
    | (simp only [fpM, Option.some.injEq] at hm; exact absurd hm.symm hq)
    | (simp only [fpM] at hm; cases hm)

/-- In a region whose order is looked at. -/
theorem look_op {T : Tab} {nl : List (Nat × Nat)} {full : List Oper} {n : Nat} {c c' : CS} {r : RF} {l : List AV} {s : St} {h : FH} {o : Oper} {i : Ins} {g : Option (Src × Bool)} {d : Dst} {ck : CallK} {cs : CallF} (hcs : CallSim ck cs)
    (k : Rel nl full n c r l s h) (hn : NlOk nl) (ho : o ∈ full) (hg : guardOf nl full c o = some g) (hi : insOf T nl c o = some i) (hd : DstOk nl n o d c c') {es : List Ent} {kn : KN} {kx : KX} {j : Nat} {m : FpM} (hm : fpM nl c o = some m)
    (hr : (gF T ⟨g, i, d, .looked j m⟩).f ck r l es h kn kx = some res) :
    ∃ s' fp r' l' h', drawOp cs T full s o = some (s', fp) ∧ Rel nl full n c' r' l' s' h' ∧ kn r' l' (entCons ⟨j, fp, s.h.next, s'.h.next⟩ es) h' = some res := by
  by_cases hq : m = .quiet
  · subst hq
    obtain ⟨s', fp, r', l', h', h1, h2, h3, h4⟩ := still_op hcs k hn ho hg hi hd (.inr ⟨j, rfl⟩) hr
    refine ⟨s', fp, r', l', h', h1, h2, ?_⟩
    rw [fpM_quiet hm] at h4
    rcases h4 with ⟨rfl, h5⟩ | h4
    · have : isQuiet ⟨j, .none, s.h.next, s'.h.next⟩ = true := by simp only [isQuiet, h5, Nat.beq_refl]
      simp only [entCons, this, cond_true]
      exact h3
    · exact h4.elim
  have hop : opF T i d (.looked j m) = drawF (dstF d) j (fpF m) (insF T i) := by cases m <;> first | rfl | exact absurd rfl hq
  have off : s.wanted full o = false → (dstF d).f kn dflt r l es h = some res → (∃ s' fp r' l' h', drawOp cs T full s o = some (s', fp) ∧ Rel nl full n c' r' l' s' h' ∧ kn r' l' (entCons ⟨j, fp, s.h.next, s'.h.next⟩ es) h' = some res) := fun hw hr => by
    obtain ⟨s', hp, hk⟩ := put_rel k hn ho hd dflt h
    obtain ⟨r', l', hrel, hr⟩ := hk kn es res hr
    rw [← k.hp] at hp
    refine ⟨s', .none, r', l', h, ?_, hrel, ?_⟩
    · simp only [drawOp, hw, cond_false]
      show (match s.put o.dst dflt s.h with
        | some s' => some (s', Fp.none)
        | none => none) = _
      rw [hp]
    · have : isQuiet ⟨j, .none, s.h.next, s'.h.next⟩ = true := by simp only [isQuiet, (St.put_h hp).1, Nat.beq_refl]
      simp only [entCons, this, cond_true]
      exact hr
  have on : s.wanted full o = true → (drawF (dstF d) j (fpF m) (insF T i)).f ck r l es h kn kx = some res → (∃ s' fp r' l' h', drawOp cs T full s o = some (s', fp) ∧ Rel nl full n c' r' l' s' h' ∧ kn r' l' (entCons ⟨j, fp, s.h.next, s'.h.next⟩ es) h' = some res) := fun hw hr => by
    have hk := insOf_ok (h := h) k.look hi
    have hnx : s.h.next = h.next := by rw [k.hp]; rfl
    cases hx : insF T i with
    | v x =>
      rw [hx] at hr hk
      obtain ⟨v, h', he, hr⟩ := hk _ _ (show x.f r l h (fun v h' => (dstF d).f kn v r l (⟨j, (fpF m).f r l h.next h', h.next, h'.next⟩ :: es) h') = some res from hr)
      obtain ⟨s', hp, hq2⟩ := put_rel k hn ho hd v h'
      obtain ⟨r', l', hrel, hr⟩ := hq2 kn _ res hr
      obtain ⟨f1, f2⟩ := fp_val k.look hm hq (.inl ⟨v, he⟩) h.next h'
      refine ⟨s', fpOf o s.ev, r', l', h', by simp only [drawOp, hw, cond_true, k.hp, he, hp], hrel, ?_⟩
      have e1 : s'.h.next = h'.next := by rw [(St.put_h hp).1]; rfl
      rw [hnx, e1]
      have f3 : isQuiet ⟨j, fpOf o s.ev, h.next, h'.next⟩ = false := f2 j
      simp only [entCons, f3, cond_false]
      rw [← f1]
      exact hr
    | s x =>
      rw [hx] at hr hk
      obtain ⟨h', he, hr⟩ := hk _ _ (show x.f r l h (fun h' => (dstF d).f kn dflt r l (⟨j, (fpF m).f r l h.next h', h.next, h'.next⟩ :: es) h') = some res from hr)
      obtain ⟨s', hp, hq2⟩ := put_rel k hn ho hd dflt h'
      obtain ⟨r', l', hrel, hr⟩ := hq2 kn _ res hr
      obtain ⟨f1, f2⟩ := fp_val k.look hm hq (.inr he) h.next h'
      refine ⟨s', fpOf o s.ev, r', l', h', ?_, hrel, ?_⟩
      · simp only [drawOp, hw, cond_true, k.hp, he]
        show (match s.put o.dst dflt h'.abs with
          | some s' => some (s', fpOf o s.ev)
          | none => none) = _
        rw [hp]
      · have e1 : s'.h.next = h'.next := by rw [(St.put_h hp).1]; rfl
        rw [hnx, e1]
        have f3 : isQuiet ⟨j, fpOf o s.ev, h.next, h'.next⟩ = false := f2 j
        simp only [entCons, f3, cond_false]
        rw [← f1]
        exact hr
    | n x =>
      rw [hx] at hr hk
      rcases hk _ _ _ (show x.f r l h (fun v h' => (dstF d).f kn v r l (⟨j, (fpF m).f r l h.next h', h.next, h'.next⟩ :: es) h') (fun _ => none) = some res from hr) with ⟨v, h', he, hr⟩ | ⟨v, he, hr⟩
      · obtain ⟨s', hp, hq2⟩ := put_rel k hn ho hd v h'
        obtain ⟨r', l', hrel, hr⟩ := hq2 kn _ res hr
        obtain ⟨f1, f2⟩ := fp_val k.look hm hq (.inl ⟨v, he⟩) h.next h'
        refine ⟨s', fpOf o s.ev, r', l', h', by simp only [drawOp, hw, cond_true, k.hp, he, hp], hrel, ?_⟩
        have e1 : s'.h.next = h'.next := by rw [(St.put_h hp).1]; rfl
        rw [hnx, e1]
        have f3 : isQuiet ⟨j, fpOf o s.ev, h.next, h'.next⟩ = false := f2 j
        simp only [entCons, f3, cond_false]
        rw [← f1]
        exact hr
      · cases hr
    | e x =>
      rw [hx] at hr hk
      obtain ⟨f, args, he, hr⟩ := hk _ _ (show x.f r l (fun f args => ck f args ⟨h.next, h.next, h.m⟩ (retL (dstF d) kn r l es j (fpF m) h.next h.low)) = some res from hr)
      obtain ⟨e, h', hc, hr⟩ := hcs _ _ _ _ _ hr
      have hmc := fpM_call hm (cls_enter he)
      subst hmc
      cases e with
      | ret v =>
        have hr : lowK h'.low h.low (fun low => (dstF d).f kn v r l (⟨j, .call (Nat.ble h.next h'.low), h.next, h'.next⟩ :: es) ⟨h'.next, low, h'.m⟩) = some res := hr
        rw [lowK_eq] at hr
        obtain ⟨s', hp, hq2⟩ := put_rel k hn ho hd v ⟨h'.next, cond (Nat.blt h'.low h.low) h'.low h.low, h'.m⟩
        obtain ⟨r', l', hrel, hr⟩ := hq2 kn _ res hr
        have hc2 : cs f args ⟨h.abs.next, h.abs.next, h.abs.m⟩ = some (.ret v, h'.abs) := hc
        refine ⟨s', .call (Nat.ble h.next h'.low), r', l', _, ?_, hrel, ?_⟩
        · simp only [drawOp, hw, cond_true, k.hp, he, hc2]
          have e1 : (⟨h'.abs.next, cond (Nat.blt h'.abs.low h.abs.low) h'.abs.low h.abs.low, h'.abs.m⟩ : Hp) = FH.abs ⟨h'.next, cond (Nat.blt h'.low h.low) h'.low h.low, h'.m⟩ := rfl
          rw [e1, hp]
          rfl
        · have e1 : s'.h.next = h'.next := by rw [(St.put_h hp).1]; rfl
          rw [hnx, e1]
          exact hr
      | pan v => cases hr
  rcases gF_cases hr with ⟨h1, hr⟩ | ⟨gs, w, h1, ⟨hw, hr⟩ | ⟨hw, hr⟩⟩
  · dsimp only at h1
    subst h1
    exact on (wanted_none (guard_none hg)) (by rw [← hop]; exact hr)
  · dsimp only at h1
    subst h1
    exact on (by rw [guard_want k hg]; exact hw) (by rw [← hop]; exact hr)
  · dsimp only at h1
    subst h1
    exact off (by rw [guard_want k hg]; exact hw) hr
end
section
variable {res : AEnd × FH}

theorem cond_c {α : Type} {c : Bool} {x : Option α} {y : α} (h : cond c x none = some y) : c = true := by
  cases c
  · cases h
  · rfl
theorem comp_cons {T : Tab} {md : Mode} {nl : List (Nat × Nat)} {n : Nat} {full : List Oper} {o : Oper} {rest : List Oper} {j : Nat} {c cf : CS} {gs : List GI} (h : compOps T md nl n full (o :: rest) j c = some (gs, cf)) :
    ∃ g, guardOf nl full c o = some g ∧ ((∃ i d dr c' gs', insOf T nl c o = some i ∧ drawOf md nl c j o = some dr ∧ DstOk nl n o d c c' ∧ compOps T md nl n full rest (j + 1) c' = some (gs', cf) ∧ gs = ⟨g, i, d, dr⟩ :: gs') ∨
      ∃ t s, g = none ∧ o.dst = some t ∧ Nat.blt t n = true ∧ assoc nl t = none ∧ alias? nl full c o = some s ∧ compOps T md nl n full rest (j + 1) ⟨c.d, (t, s) :: c.env⟩ = some (gs, cf)) := by
  simp only [compOps] at h
  split at h
  · cases h
  rename_i g hg
  refine ⟨g, hg, ?_⟩
  split at h
  · rename_i hd
    split at h
    · rename_i i dr hi hdr
      simp only [Option.map_eq_some_iff, Prod.mk.injEq] at h
      obtain ⟨x, h1, h2, rfl⟩ := h
      exact .inl ⟨i, .no, dr, c, x.1, hi, hdr, .inl ⟨hd, rfl, rfl⟩, h1, h2.symm⟩
    · cases h
  · rename_i t hd
    have hb := cond_c h
    replace h := cond_some h
    split at h
    · rename_i k hk
      split at h
      · rename_i i dr hi hdr
        simp only [Option.map_eq_some_iff, Prod.mk.injEq] at h
        obtain ⟨x, h1, h2, rfl⟩ := h
        exact .inl ⟨i, .set k, dr, c, x.1, hi, hdr, .inr ⟨t, hd, hb, .inl ⟨k, hk, rfl, rfl⟩⟩, h1, h2.symm⟩
      · cases h
    · rename_i hk
      split at h
      · rename_i s ha
        split at ha
        · exact .inr ⟨t, s, rfl, hd, hb, hk, ha, h⟩
        · cases ha
      · split at h
        · rename_i i dr hi hdr
          simp only [Option.map_eq_some_iff, Prod.mk.injEq] at h
          obtain ⟨x, h1, h2, rfl⟩ := h
          exact .inl ⟨i, .push, dr, _, x.1, hi, hdr, .inr ⟨t, hd, hb, .inr ⟨hk, rfl, rfl⟩⟩, h1, h2.symm⟩
        · cases h

theorem alias_ok {T : Tab} {nl : List (Nat × Nat)} {full : List Oper} {n : Nat} {c : CS} {r : RF} {l : List AV} {s : St} {h : FH} {o : Oper} {t : Nat} {src : Src} (k : Rel nl full n c r l s h) (hn : NlOk nl)
    (hd : o.dst = some t) (hb : Nat.blt t n = true) (ha : assoc nl t = none) (hs : alias? nl full c o = some src) :
    ∃ v s', evOp T s.ev s.h o = some (.val v s.h) ∧ s.put o.dst v s.h = some s' ∧ fpOf o s.ev = .none ∧ s'.h = s.h ∧ Rel nl full n ⟨c.d, (t, src) :: c.env⟩ r l s' h := by
  have key : ∀ x, evOp T s.ev s.h o = some (.val (s.ev x) s.h) → fpOf o s.ev = .none → SrcOk nl full c.d src → s.ev x = (srcF (relS c.d src)).f r l → ∃ v s', evOp T s.ev s.h o = some (.val v s.h) ∧ s.put o.dst v s.h = some s' ∧ fpOf o s.ev = .none ∧ s'.h = s.h ∧ Rel nl full n ⟨c.d, (t, src) :: c.env⟩ r l s' h := fun x he hf so hx => by
    refine ⟨s.ev x, ⟨upd s.tm t (some (s.ev x)), s.n, s.h, s.ds⟩, he, by rw [hd]; simp only [St.put, k.sn, hb, cond_true], hf, rfl, ⟨fun t' k' ht' => ?_, fun t' src' hs' => ?_, k.len, k.sn, k.ds, k.hp⟩⟩
    · rw [slot_upd, if_neg]
      · exact k.reg t' k' ht'
      · intro e
        subst e
        rw [ha] at ht'
        cases ht'
    · simp only [assoc] at hs'
      cases e : Nat.beq t t' with
      | true =>
        rw [e, cond_true] at hs'
        injection hs' with hs'
        subst hs'
        rw [Nat.beq_eq] at e
        subst e
        refine ⟨ha, so, ?_⟩
        rw [slot_upd, if_pos rfl]
        exact hx
      | false =>
        rw [e, cond_false] at hs'
        obtain ⟨g1, g2, g3⟩ := k.env t' src' hs'
        refine ⟨g1, g2, ?_⟩
        rw [slot_upd, if_neg]
        · exact g3
        · intro e2
          subst e2
          rw [Nat.beq_refl] at e
          cases e
  obtain ⟨dst, op, ty, pos, after, guard⟩ := o
  have env : ∀ t', assoc c.env t' = some src → SrcOk nl full c.d src ∧ s.ev (.tmp t') = (srcF (relS c.d src)).f r l := fun t' h => by
    obtain ⟨_, h2, h3⟩ := k.env t' src h
    exact ⟨h2, h3⟩
  cases op <;> try (cases hs; done)
  case move x =>
    cases x with
    | tmp t' =>
      simp only [alias?] at hs
      split at hs
      · rename_i s0 h0
        injection hs with hs
        subst hs
        exact key (.tmp t') rfl rfl (env t' h0).1 (env t' h0).2
      · split at hs
        · rename_i kk hk
          cases hw : writes nl kk full with
          | true => rw [hw] at hs; cases hs
          | false =>
            rw [hw, cond_false] at hs
            injection hs with hs
            subst hs
            exact key (.tmp t') rfl rfl ⟨hn.lt t' kk hk, hw⟩ (k.reg t' kk hk)
        · cases hs
    | const v =>
      simp only [alias?, Option.some.injEq] at hs
      subst hs
      exact key (.const v) rfl rfl trivial rfl
    | _ => cases hs
  case assign x =>
    cases x with
    | tmp t' =>
      simp only [alias?] at hs
      exact key (.tmp t') rfl rfl (env t' hs).1 (env t' hs).2
    | const v =>
      simp only [alias?, Option.some.injEq] at hs
      subst hs
      exact key (.const v) rfl rfl trivial rfl
    | _ => cases hs

/-! ### in order -/
theorem evOps_one {cs : CallF} {T : Tab} {full : List Oper} {o : Oper} {s s' : St} (h : evOps cs T full [o] s = some (.normal, s')) (rest : List Oper) : evOps cs T full (o :: rest) s = evOps cs T full rest s' := by
  simp only [evOps] at h ⊢
  cases hw : s.wanted full o with
  | true =>
    rw [hw, cond_true] at h
    rw [cond_true]
    split at h
    · split at h
      · rename_i h1
        simp only [Option.some.injEq, Prod.mk.injEq, true_and] at h
        subst h
        simp only [*]
      · cases h
    · split at h
      · rename_i h1
        simp only [Option.some.injEq, Prod.mk.injEq, true_and] at h
        subst h
        simp only [*]
      · cases h
    · split at h
      · split at h
        · rename_i h1
          simp only [Option.some.injEq, Prod.mk.injEq, true_and] at h
          subst h
          simp only [*]
        · cases h
      · simp at h
      · cases h
    · split at h
      · rename_i h1
        simp only [Option.some.injEq, Prod.mk.injEq, true_and] at h
        subst h
        simp only [*]
      · cases h
    · simp at h
    · cases h
  | false =>
    rw [hw, cond_false] at h
    rw [cond_false]
    split at h
    · rename_i h1
      simp only [Option.some.injEq, Prod.mk.injEq, true_and] at h
      subst h
      simp only [h1]
    · cases h
theorem evOps_pan {cs : CallF} {T : Tab} {full : List Oper} {o : Oper} {s s' : St} {v : AV} (h : evOps cs T full [o] s = some (.panic v, s')) (rest : List Oper) : evOps cs T full (o :: rest) s = some (.panic v, s') := by
  simp only [evOps] at h ⊢
  cases hw : s.wanted full o with
  | true =>
    rw [hw, cond_true] at h
    rw [cond_true]
    split at h
    · split at h <;> simp at h
    · split at h <;> simp at h
    · split at h
      · split at h <;> simp at h
      · simp only [Option.some.injEq, Prod.mk.injEq, AExit.panic.injEq] at h
        obtain ⟨rfl, rfl⟩ := h
        simp only [*]
      · cases h
    · split at h <;> simp at h
    · simp only [Option.some.injEq, Prod.mk.injEq, AExit.panic.injEq] at h
      obtain ⟨rfl, rfl⟩ := h
      simp only [*]
    · cases h
  | false =>
    rw [hw, cond_false] at h
    split at h <;> simp at h

theorem plain_list {T : Tab} {nl : List (Nat × Nat)} {full : List Oper} {n : Nat} {ck : CallK} {cs : CallF} (hcs : CallSim ck cs) (hn : NlOk nl) {es : List Ent} {kn : KN} {kx : KX} : ∀ (ops : List Oper) (j : Nat) (c cf : CS) (gs : List GI) (r : RF) (l : List AV) (s : St) (h : FH),
    (∀ o ∈ ops, o ∈ full) → compOps T .plain nl n full ops j c = some (gs, cf) → Rel nl full n c r l s h → (listF T gs).f ck r l es h kn kx = some res →
    (∃ s' r' l' h', evOps cs T full ops s = some (.normal, s') ∧ Rel nl full n cf r' l' s' h' ∧ kn r' l' es h' = some res) ∨ ∃ v s' r' h', evOps cs T full ops s = some (.panic v, s') ∧ s'.ds = [] ∧ s'.h = FH.abs h' ∧ kx v r' h' = some res
  | [], j, c, cf, gs, r, l, s, h, hm, hc, k, hr => by
    simp only [compOps, Option.some.injEq, Prod.mk.injEq] at hc
    obtain ⟨rfl, rfl⟩ := hc
    exact .inl ⟨s, r, l, h, rfl, k, hr⟩
  | o :: rest, j, c, cf, gs, r, l, s, h, hm, hc, k, hr => by
    obtain ⟨g, hg, ⟨i, d, dr, c', gs', hi, hdr, hd, hc1, rfl⟩ | ⟨t, src, rfl, hd, hb, ha, hs, hc1⟩⟩ := comp_cons hc
    · simp only [drawOf, Option.some.injEq] at hdr
      subst hdr
      have hr : (gF T ⟨g, i, d, .plain⟩).f ck r l es h (fun r l es h => (listF T gs').f ck r l es h kn kx) kx = some res := hr
      rcases plain_op hcs k hn (hm o (by simp)) hg hi hd hr with ⟨s1, r1, l1, h1, he, k1, hr⟩ | ⟨v, s1, r1, h1, he, h2, h3, hr⟩
      · rcases plain_list hcs hn rest (j + 1) c' cf gs' r1 l1 s1 h1 (fun o ho => hm o (by simp [ho])) hc1 k1 hr with ⟨s', r', l', h', h2, h3, h4⟩ | ⟨v, s', r', h', h2, h3, h4, h5⟩
        · exact .inl ⟨s', r', l', h', by rw [evOps_one he, h2], h3, h4⟩
        · exact .inr ⟨v, s', r', h', by rw [evOps_one he, h2], h3, h4, h5⟩
      · exact .inr ⟨v, s1, r1, h1, evOps_pan he rest, h2, h3, hr⟩
    · obtain ⟨v, s1, he, hp, _, _, k1⟩ := alias_ok (T := T) k hn hd hb ha hs
      have h1 : evOps cs T full [o] s = some (.normal, s1) := by simp only [evOps, wanted_none (guard_none hg), cond_true, he, hp]
      rcases plain_list hcs hn rest (j + 1) _ cf gs r l s1 h (fun o ho => hm o (by simp [ho])) hc1 k1 hr with ⟨s', r', l', h', h2, h3, h4⟩ | ⟨v, s', r', h', h2, h3, h4, h5⟩
      · exact .inl ⟨s', r', l', h', by rw [evOps_one h1, h2], h3, h4⟩
      · exact .inr ⟨v, s', r', h', by rw [evOps_one h1, h2], h3, h4, h5⟩

/-! ### looked at -/
theorem alias_draw {T : Tab} {nl : List (Nat × Nat)} {full : List Oper} {n : Nat} {c : CS} {r : RF} {l : List AV} {s : St} {h : FH} {o : Oper} {t : Nat} {src : Src} {cs : CallF} (k : Rel nl full n c r l s h) (hn : NlOk nl)
    (hg : guardOf nl full c o = some none) (hd : o.dst = some t) (hb : Nat.blt t n = true) (ha : assoc nl t = none) (hs : alias? nl full c o = some src) :
    ∃ s', drawOp cs T full s o = some (s', .none) ∧ s'.h = s.h ∧ Rel nl full n ⟨c.d, (t, src) :: c.env⟩ r l s' h := by
  obtain ⟨v, s1, he, hp, hf, hh, k1⟩ := alias_ok (T := T) k hn hd hb ha hs
  exact ⟨s1, by simp only [drawOp, wanted_none (guard_none hg), cond_true, he, hp, hf], hh, k1⟩
theorem entCons_none (j a : Nat) (L : List Ent) : entCons ⟨j, .none, a, a⟩ L = L := by
  simp only [entCons, isQuiet, Nat.beq_refl, cond_true]
theorem look_list {T : Tab} {nl : List (Nat × Nat)} {full : List Oper} {n : Nat} {ck : CallK} {cs : CallF} (hcs : CallSim ck cs) (hn : NlOk nl) {kn : KN} {kx : KX} : ∀ (ops : List Oper) (j : Nat) (c cf : CS) (gs : List GI) (r : RF) (l : List AV) (es : List Ent) (s : St) (h : FH),
    (∀ o ∈ ops, o ∈ full) → compOps T .looked nl n full ops j c = some (gs, cf) → Rel nl full n c r l s h → (listF T gs).f ck r l es h kn kx = some res →
    ∃ s' r' l' es' h', drawRun cs T full ops j s es = some (s', es') ∧ Rel nl full n cf r' l' s' h' ∧ kn r' l' es' h' = some res
  | [], j, c, cf, gs, r, l, es, s, h, hm, hc, k, hr => by
    simp only [compOps, Option.some.injEq, Prod.mk.injEq] at hc
    obtain ⟨rfl, rfl⟩ := hc
    exact ⟨s, r, l, es, h, rfl, k, hr⟩
  | o :: rest, j, c, cf, gs, r, l, es, s, h, hm, hc, k, hr => by
    obtain ⟨g, hg, ⟨i, d, dr, c', gs', hi, hdr, hd, hc1, rfl⟩ | ⟨t, src, rfl, hd, hb, ha, hs, hc1⟩⟩ := comp_cons hc
    · simp only [drawOf] at hdr
      split at hdr
      · rename_i m hfm
        simp only [Option.some.injEq] at hdr
        subst hdr
        have hr : (gF T ⟨g, i, d, .looked j m⟩).f ck r l es h (fun r l es h => (listF T gs').f ck r l es h kn kx) kx = some res := hr
        obtain ⟨s1, fp, r1, l1, h1, he, k1, hr⟩ := look_op hcs k hn (hm o (by simp)) hg hi hd hfm hr
        obtain ⟨s', r', l', es', h', h2, h3, h4⟩ := look_list hcs hn rest (j + 1) c' cf gs' r1 l1 _ s1 h1 (fun o ho => hm o (by simp [ho])) hc1 k1 hr
        exact ⟨s', r', l', es', h', by simp only [drawRun, he]; exact h2, h3, h4⟩
      · cases hdr
    · obtain ⟨s1, he, hh, k1⟩ := alias_draw (T := T) (cs := cs) k hn hg hd hb ha hs
      obtain ⟨s', r', l', es', h', h2, h3, h4⟩ := look_list hcs hn rest (j + 1) _ cf gs r l es s1 h (fun o ho => hm o (by simp [ho])) hc1 k1 hr
      exact ⟨s', r', l', es', h', by simp only [drawRun, he, hh, entCons_none]; exact h2, h3, h4⟩

/-! ### of no account -/
theorem cls_apart {c1 c2 : Cls} {x e : Ent} (h1 : EntCls c1 x.fp x.n0 x.n1) (h2 : EntCls c2 e.fp e.n0 e.n1) (q1 : isQuiet x = false) (q2 : isQuiet e = false) (h : clsApart c1 c2 = true) : e.apart x = true := by
  obtain ⟨i, fp, n0, n1⟩ := x
  obtain ⟨j, fp', m0, m1⟩ := e
  have e1 := h1.resolve_left (fun hx => by
    simp only at hx
    rw [hx.1, hx.2] at q1
    simp only [isQuiet, Nat.beq_refl] at q1
    cases q1)
  have e2 := h2.resolve_left (fun hx => by
    simp only at hx
    rw [hx.1, hx.2] at q2
    simp only [isQuiet, Nat.beq_refl] at q2
    cases q2)
  cases c1 <;> cases c2 <;> simp only at e1 e2 <;> first
    | (cases h; done)
    | exact e1.elim
    | exact e2.elim
    | (subst e1; subst e2; rfl)
    | (obtain ⟨b, rfl⟩ := e1; subst e2; rfl)
    | (obtain ⟨b, rfl⟩ := e2; subst e1; rfl)
    | (obtain ⟨b, rfl⟩ := e2; obtain ⟨b', rfl⟩ := e1; rfl)
def Inv0 (bf : List Nat) (L : List Ent) (ops : List Oper) (j : Nat) : Prop :=
  looks bf L = true ∧ ∀ e ∈ L, ∃ c, EntCls c e.fp e.n0 e.n1 ∧ isQuiet e = false ∧ drawOne bf c e.i ops j = true
theorem inv0_step {bf : List Nat} {L : List Ent} {o : Oper} {rest : List Oper} {j : Nat} {fp : Fp} {n0 n1 : Nat} (h : Inv0 bf L (o :: rest) j) (hd : drawOne bf (clsOf o) j rest (j + 1) = true) (hc : isQuiet ⟨j, fp, n0, n1⟩ = false → EntCls (clsOf o) fp n0 n1) : Inv0 bf (entCons ⟨j, fp, n0, n1⟩ L) rest (j + 1) := by
  obtain ⟨h1, h2⟩ := h
  have tail : ∀ e ∈ L, ∃ c, EntCls c e.fp e.n0 e.n1 ∧ isQuiet e = false ∧ drawOne bf c e.i rest (j + 1) = true := fun e he => by
    obtain ⟨c, h3, h4, h5⟩ := h2 e he
    simp only [drawOne, Bool.and_eq_true] at h5
    exact ⟨c, h3, h4, h5.2⟩
  cases hq : isQuiet ⟨j, fp, n0, n1⟩ with
  | true => simp only [entCons, hq, cond_true]; exact ⟨h1, tail⟩
  | false =>
    simp only [entCons, hq, cond_false]
    have one : ∀ L' : List Ent, (∀ e ∈ L', e ∈ L) → looksOne bf ⟨j, fp, n0, n1⟩ L' = true := by
      intro L'
      induction L' with
      | nil => intro _; rfl
      | cons x L' ih =>
        intro hm
        simp only [looksOne, Bool.and_eq_true]
        refine ⟨?_, ih fun e he => hm e (by simp [he])⟩
        obtain ⟨c, h3, h4, h5⟩ := h2 x (hm x (by simp))
        simp only [drawOne, Bool.and_eq_true, Bool.or_eq_true] at h5
        simp only [Bool.or_eq_true]
        rcases h5.1 with h6 | h6
        · exact .inl (.inl (cls_apart (x := x) (e := ⟨j, fp, n0, n1⟩) h3 (hc hq) h4 hq h6))
        · exact .inl (.inr h6)
    refine ⟨by simp only [looks, Bool.and_eq_true]; exact ⟨one L fun e he => he, h1⟩, fun e he => ?_⟩
    rcases List.mem_cons.1 he with rfl | he
    · exact ⟨clsOf o, hc hq, hq, hd⟩
    · exact tail e he
theorem still_list {T : Tab} {nl : List (Nat × Nat)} {full : List Oper} {n : Nat} {ck : CallK} {cs : CallF} (hcs : CallSim ck cs) (hn : NlOk nl) {bf : List Nat} {es : List Ent} {kn : KN} {kx : KX} : ∀ (ops : List Oper) (j : Nat) (c cf : CS) (gs : List GI) (r : RF) (l : List AV) (L : List Ent) (s : St) (h : FH),
    (∀ o ∈ ops, o ∈ full) → compOps T .still nl n full ops j c = some (gs, cf) → drawAll bf ops j = true → Inv0 bf L ops j → Rel nl full n c r l s h → (listF T gs).f ck r l es h kn kx = some res →
    ∃ s' r' l' L' h', drawRun cs T full ops j s L = some (s', L') ∧ looks bf L' = true ∧ Rel nl full n cf r' l' s' h' ∧ kn r' l' es h' = some res
  | [], j, c, cf, gs, r, l, L, s, h, hm, hc, hda, hi0, k, hr => by
    simp only [compOps, Option.some.injEq, Prod.mk.injEq] at hc
    obtain ⟨rfl, rfl⟩ := hc
    exact ⟨s, r, l, L, h, rfl, hi0.1, k, hr⟩
  | o :: rest, j, c, cf, gs, r, l, L, s, h, hm, hc, hda, hi0, k, hr => by
    simp only [drawAll, Bool.and_eq_true] at hda
    obtain ⟨g, hg, ⟨i, d, dr, c', gs', hi, hdr, hd, hc1, rfl⟩ | ⟨t, src, rfl, hd, hb, ha, hs, hc1⟩⟩ := comp_cons hc
    · simp only [drawOf, Option.some.injEq] at hdr
      subst hdr
      have hr : (gF T ⟨g, i, d, .still⟩).f ck r l es h (fun r l es h => (listF T gs').f ck r l es h kn kx) kx = some res := hr
      obtain ⟨s1, fp, r1, l1, h1, he, k1, hr, hec⟩ := still_op hcs k hn (hm o (by simp)) hg hi hd (.inl rfl) hr
      obtain ⟨s', r', l', L', h', h2, h3, h4, h5⟩ := still_list hcs hn rest (j + 1) c' cf gs' r1 l1 _ s1 h1 (fun o ho => hm o (by simp [ho])) hc1 hda.2 (inv0_step (fp := fp) (n0 := s.h.next) (n1 := s1.h.next) hi0 hda.1 (fun _ => hec)) k1 hr
      exact ⟨s', r', l', L', h', by simp only [drawRun, he]; exact h2, h3, h4, h5⟩
    · obtain ⟨s1, he, hh, k1⟩ := alias_draw (T := T) (cs := cs) k hn hg hd hb ha hs
      have hi1 := inv0_step (fp := .none) (n0 := s.h.next) (n1 := s.h.next) hi0 hda.1 (fun hq => by simp only [isQuiet, Nat.beq_refl] at hq; cases hq)
      rw [entCons_none] at hi1
      obtain ⟨s', r', l', L', h', h2, h3, h4, h5⟩ := still_list hcs hn rest (j + 1) _ cf gs r l L s1 h (fun o ho => hm o (by simp [ho])) hc1 hda.2 hi1 k1 hr
      exact ⟨s', r', l', L', h', by simp only [drawRun, he, hh, entCons_none]; exact h2, h3, h4, h5⟩
end
section
structure RelC (nl : List (Nat × Nat)) (n : Nat) (r : RF) (s : St) (h : FH) : Prop where
  reg : ∀ t k, assoc nl t = some k → s.slot t = (acc k).get r
  sn : s.n = n
  ds : s.ds = []
  hp : s.h = h.abs
theorem RelC.start {nl : List (Nat × Nat)} {full : List Oper} {n : Nat} {r : RF} {s : St} {h : FH} (k : RelC nl n r s h) : Rel nl full n ⟨0, []⟩ r [] s h :=
  ⟨k.reg, (fun t src h => by cases h), rfl, k.sn, k.ds, k.hp⟩
theorem Rel.fin {nl : List (Nat × Nat)} {full : List Oper} {n : Nat} {c : CS} {r : RF} {l : List AV} {s : St} {h : FH} (k : Rel nl full n c r l s h) : RelC nl n r s h :=
  ⟨k.reg, k.sn, k.ds, k.hp⟩

abbrev CK := CallK → RF → FH → (RF → FH → R') → (AExit → RF → FH → R') → R'
def Ans (nl : List (Nat × Nat)) (n : Nat) (kn : RF → FH → R') (kx : AExit → RF → FH → R') (res : AEnd × FH) (e : AExit) (s' : St) : Prop := ∃ r' h', match e with
  | .normal => RelC nl n r' s' h' ∧ kn r' h' = some res
  | .panic v => s'.ds = [] ∧ s'.h = FH.abs h' ∧ kx (.panic v) r' h' = some res
  | e => RelC nl n r' s' h' ∧ kx e r' h' = some res
def SimS (ck : CallK) (nl : List (Nat × Nat)) (n : Nat) (f : St → Option (AExit × St)) (K : CK) : Prop :=
  ∀ r s h kn kx res, RelC nl n r s h → K ck r h kn kx = some res → ∃ e s', f s = some (e, s') ∧ Ans nl n kn kx res e s'

variable {T : Tab} {nl : List (Nat × Nat)} {n : Nat} {ck : CallK} {cs : CallF}

theorem simS_seq {f g : St → Option (AExit × St)} {A B : CK} (ha : SimS ck nl n f A) (hb : SimS ck nl n g B) :
    SimS ck nl n (fun s => match f s with
      | some (.normal, s') => g s'
      | r => r) (fun ck r h kn kx => A ck r h (fun r h => B ck r h kn kx) kx) := by
  intro r s h kn kx res k hr
  obtain ⟨e, s1, h1, r1, hh1, h2⟩ := ha r s h _ kx res k hr
  dsimp only
  rw [h1]
  cases e with
  | normal => exact hb r1 s1 hh1 kn kx res h2.1 h2.2
  | _ => exact ⟨_, s1, rfl, r1, hh1, h2⟩

theorem reg_sim {M : Nat → Option (List Nat)} {lf : Nat} {ree : ReF} (hcs : CallSim ck cs) (hn : NlOk nl) {id : Nat} {ops : Array Oper} {draw : Bool} {bf : Option (List Nat)} {gs : List GI} {cf : CS} (hc : compReg T M nl n id ops.toList draw = some (bf, gs, cf))
    {r : RF} {s : St} {h : FH} {KN' : RF → List AV → FH → R'} {kx : AExit → RF → FH → R'} {res : AEnd × FH} (k : RelC nl n r s h)
    (hr : (listF T gs).f ck r [] [] h (fun r st es h => (lookF bf).f es (KN' r st h)) (fun v r h => kx (.panic v) r h) = some res) :
    (∃ s' r' l' h', evCode cs T M lf ree (.region id ops draw) s = some (.normal, s') ∧ Rel nl ops.toList n cf r' l' s' h' ∧ KN' r' l' h' = some res) ∨
      ∃ v s' r' h', evCode cs T M lf ree (.region id ops draw) s = some (.panic v, s') ∧ s'.ds = [] ∧ s'.h = FH.abs h' ∧ kx (.panic v) r' h' = some res := by
  unfold compReg at hc
  cases draw with
  | false =>
    rw [cond_false] at hc
    simp only [Option.map_eq_some_iff, Prod.mk.injEq] at hc
    obtain ⟨x, hc, rfl, rfl⟩ := hc
    simp only [evCode, cond_false]
    exact plain_list hcs hn ops.toList 0 _ cf gs r [] s h (fun o ho => ho) hc k.start hr
  | true =>
    rw [cond_true] at hc
    split at hc
    · rename_i m hm
      cases hd : drawAll m ops.toList 0 with
      | true =>
        rw [hd, cond_true] at hc
        simp only [Option.map_eq_some_iff, Prod.mk.injEq] at hc
        obtain ⟨x, hc, rfl, rfl⟩ := hc
        obtain ⟨s', r', l', L', h', h1, h2, h3, h4⟩ := still_list (bf := m) hcs hn ops.toList 0 _ cf gs r [] [] s h (fun o ho => ho) hc hd ⟨rfl, fun e he => by cases he⟩ k.start hr
        refine .inl ⟨s', r', l', h', ?_, h3, h4⟩
        simp only [evCode, cond_true, evDraw, h1, hm]
        cases L' with
        | nil => rfl
        | cons a b => simp only [h2, cond_true]
      | false =>
        rw [hd, cond_false] at hc
        simp only [Option.map_eq_some_iff, Prod.mk.injEq] at hc
        obtain ⟨x, hc, rfl, rfl⟩ := hc
        obtain ⟨s', r', l', es', h', h1, h2, h3⟩ := look_list hcs hn ops.toList 0 _ cf gs r [] [] s h (fun o ho => ho) hc k.start hr
        have h3 : boolK (looks m es') (KN' r' l' h') none = some res := h3
        rw [boolK_eq] at h3
        have h4 := cond_c h3
        refine .inl ⟨s', r', l', h', ?_, h2, cond_some h3⟩
        simp only [evCode, cond_true, evDraw, h1, hm]
        cases es' with
        | nil => rfl
        | cons a b => simp only [h4, cond_true]
    · cases hc

theorem look_tmp {full : List Oper} {c : CS} {r : RF} {l : List AV} {s : St} {h : FH} (k : Rel nl full n c r l s h) {t : Nat} {src : Src} (hl : c.look nl (.tmp t) = some src) : s.ev (.tmp t) = (srcF src).f r l := k.look _ _ hl

theorem cond_simS {M : Nat → Option (List Nat)} {lf : Nat} {ree : ReF} {x : Operand} {a b : Code} {A B : CK} (ha : SimS ck nl n (evCode cs T M lf ree a) A) (hb : SimS ck nl n (evCode cs T M lf ree b) B) {r : RF} {s : St} {h : FH} {kn : RF → FH → R'} {kx : AExit → RF → FH → R'} {res : AEnd × FH} {v : AV} (hv : s.ev x = v)
    (k : RelC nl n r s h) (hr : onBool v (A ck r h kn kx) (B ck r h kn kx) = some res) : ∃ e s', evCode cs T M lf ree (.cond x a b) s = some (e, s') ∧ Ans nl n kn kx res e s' := by
  obtain ⟨t, ht, hr⟩ := onBool_some hr
  simp only [evCode, hv, ht]
  cases t with
  | true => exact ha r s h kn kx res k hr
  | false => exact hb r s h kn kx res k hr

theorem ans_of {kn : RF → FH → R'} {kx : AExit → RF → FH → R'} {res : AEnd × FH} {e : AExit} {s' : St} {r' : RF} {h' : FH} (k : RelC nl n r' s' h') (hr : (match e with
    | .normal => kn r' h'
    | e => kx e r' h') = some res) : Ans nl n kn kx res e s' := by
  refine ⟨r', h', ?_⟩
  cases e with
  | panic v => exact ⟨k.ds, k.hp, hr⟩
  | _ => exact ⟨k, hr⟩

theorem loop_sim {f : St → Option (AExit × St)} {A : CK} (ha : SimS ck nl n f A) {kn : RF → FH → R'} {kx : AExit → RF → FH → R'} {res : AEnd × FH} : ∀ (m : Nat) (r : RF) (s : St) (h : FH), RelC nl n r s h → loopK A m ck r h kx = some res → ∃ e s', iter f m s = some (e, s') ∧ Ans nl n kn kx res e s'
  | 0, r, s, h, k, hr => by cases hr
  | m + 1, r, s, h, k, hr => by
    have hr : A ck r h (fun r h => loopK A m ck r h kx) kx = some res := hr
    obtain ⟨e, s1, h1, r1, hh1, h2⟩ := ha r s h _ kx res k hr
    simp only [iter, h1]
    cases e with
    | normal => exact loop_sim ha m r1 s1 hh1 h2.1 h2.2
    | _ => exact ⟨_, s1, rfl, r1, hh1, h2⟩

theorem onlyL_find {l j : Nat} : ∀ (c : Code) (r : Code), onlyL l c = true → findLabel c j = some r → j = l := by
  intro c
  induction c with
  | seq a b iha ihb =>
    intro r h k
    simp only [onlyL, Bool.and_eq_true] at h
    simp only [findLabel] at k
    split at k
    · rename_i x hx
      exact iha x h.1 hx
    · exact ihb r h.2 k
  | label l' =>
    intro r h k
    simp only [onlyL, Nat.beq_eq] at h
    simp only [findLabel] at k
    split at k
    · rename_i he
      simp only [beq_iff_eq] at he
      rw [← he, h]
    · cases k
  | _ => intro r h k; simp [findLabel] at k

def ReSim (T : Tab) (lf : Nat) (ck : CallK) (nl : List (Nat × Nat)) (n : Nat) (re : Code → Option FC) (ree : ReF) (J : Nat) : Prop :=
  ∀ c rest fc l, onlyL l c = true → findLabel c l = some rest → re rest = some fc → SimS ck nl n (ree c rest) (jumpK (codeF T lf fc).f l J)

/-- a scope's jump -/
theorem jump_ans {c rest : Code} {l : Nat} (ho : onlyL l c = true) (hf : findLabel c l = some rest) {ree : ReF} {K : CK} (hk : SimS ck nl n (ree c rest) K) {kn : RF → FH → R'} {kx : AExit → RF → FH → R'} {res : AEnd × FH} {e : AExit} {s1 : St}
    (h : Ans nl n kn (fun e r h => onGoto e l (K ck r h kn kx) (kx e r h)) res e s1) : ∃ e' s', (match (some (e, s1) : Option (AExit × St)) with
      | some (.goto l, s') => match findLabel c l with
        | some rest => ree c rest s'
        | none => some (.goto l, s')
      | r => r) = some (e', s') ∧ Ans nl n kn kx res e' s' := by
  obtain ⟨r1, h1, h2⟩ := h
  cases e with
  | goto j =>
    have h3 : boolK (Nat.beq j l) (K ck r1 h1 kn kx) (kx (.goto j) r1 h1) = some res := h2.2
    rw [boolK_eq] at h3
    cases hj : Nat.beq j l with
    | true =>
      rw [hj, cond_true] at h3
      rw [Nat.beq_eq] at hj
      subst hj
      simp only [hf]
      exact hk r1 s1 h1 kn kx res h2.1 h3
    | false =>
      rw [hj, cond_false] at h3
      cases hf2 : findLabel c j with
      | some r =>
        have := onlyL_find c r ho hf2
        subst this
        rw [Nat.beq_refl] at hj
        cases hj
      | none =>
        simp only [hf2]
        exact ⟨_, _, rfl, r1, h1, h2.1, h3⟩
  | _ => exact ⟨_, _, rfl, r1, h1, h2⟩

theorem assoc_seq {M : Nat → Option (List Nat)} {lf : Nat} {ree : ReF} (x y z : Code) (s : St) : evCode cs T M lf ree (.seq x (.seq y z)) s = evCode cs T M lf ree (.seq (.seq x y) z) s := by
  simp only [evCode]
  cases evCode cs T M lf ree x s with
  | none => rfl
  | some p =>
    obtain ⟨e, s1⟩ := p
    cases e <;> rfl

theorem regc_sim {M : Nat → Option (List Nat)} {lf : Nat} {ree : ReF} (hcs : CallSim ck cs) (hn : NlOk nl) {id : Nat} {ops : Array Oper} {draw : Bool} {bf : Option (List Nat)} {gs : List GI} {cf : CS} (hc : compReg T M nl n id ops.toList draw = some (bf, gs, cf)) {t : Nat} {src : Src} (hl : cf.look nl (.tmp t) = some src)
    {a b : Code} {fa fb : FC} (ha : SimS ck nl n (evCode cs T M lf ree a) (codeF T lf fa).f) (hb : SimS ck nl n (evCode cs T M lf ree b) (codeF T lf fb).f) : SimS ck nl n (evCode cs T M lf ree (.seq (.region id ops draw) (.cond (.tmp t) a b))) (codeF T lf (.regc bf gs src fa fb)).f := by
  intro r s h kn kx res k hr
  have hr : (listF T gs).f ck r [] [] h (fun r st es h => (lookF bf).f es ((fun r st h => onBool ((srcF src).f r st) ((codeF T lf fa).f ck r h kn kx) ((codeF T lf fb).f ck r h kn kx)) r st h)) (fun v r h => kx (.panic v) r h) = some res := hr
  rw [evCode]
  rcases reg_sim (lf := lf) (ree := ree) hcs hn hc k hr with ⟨s1, r1, l1, h1, h2, h3, h4⟩ | ⟨v, s1, r1, h1, h2, h3, h4, h5⟩
  · rw [h2]
    exact cond_simS ha hb (look_tmp h3 hl) h3.fin h4
  · rw [h2]
    exact ⟨_, s1, rfl, r1, h1, h3, h4, h5⟩

theorem code_sim {M : Nat → Option (List Nat)} {lf : Nat} {re : Code → Option FC} {ree : ReF} (hcs : CallSim ck cs) (hn : NlOk nl) (hre : ReSim T lf ck nl n re ree (lf / 3)) (c : Code) (fc : FC) (hc : compCode T M nl n re c = some fc) :
    SimS ck nl n (evCode cs T M lf ree c) (codeF T lf fc).f := by
  unfold compCode at hc
  split at hc
  · simp only [Option.some.injEq] at hc
    subst hc
    intro r s h kn kx res k hr
    exact ⟨.normal, s, by simp only [evCode], ans_of k hr⟩
  · simp only [Option.some.injEq] at hc
    subst hc
    intro r s h kn kx res k hr
    exact ⟨.normal, s, by simp only [evCode], ans_of k hr⟩
  · simp only [Option.some.injEq] at hc
    subst hc
    intro r s h kn kx res k hr
    exact ⟨.exit _, s, by simp only [evCode], ans_of k hr⟩
  · simp only [Option.some.injEq] at hc
    subst hc
    intro r s h kn kx res k hr
    exact ⟨.goto _, s, by simp only [evCode], ans_of k hr⟩
  · simp only [Option.some.injEq] at hc
    subst hc
    intro r s h kn kx res k hr
    exact ⟨.ret, s, by simp only [evCode], ans_of k hr⟩
  · split at hc
    · rename_i bf gs cf hreg
      simp only [Option.some.injEq] at hc
      subst hc
      intro r s h kn kx res k hr
      rcases reg_sim (lf := lf) (ree := ree) hcs hn hreg k (KN' := fun r _ h => kn r h) hr with ⟨s1, r1, l1, h1, h2, h3, h4⟩ | ⟨v, s1, r1, h1, h2, h3, h4, h5⟩
      · exact ⟨_, s1, h2, r1, h1, h3.fin, h4⟩
      · exact ⟨_, s1, h2, r1, h1, h3, h4, h5⟩
    · cases hc
  · rename_i id ops draw t a b rest
    split at hc
    · rename_i bf gs cf fa fb fr h1 h2 h3 h4
      split at hc
      · rename_i src hl
        simp only [Option.some.injEq] at hc
        subst hc
        intro r s h kn kx res k hr
        rw [assoc_seq]
        have := simS_seq (regc_sim hcs hn h1 hl (code_sim hcs hn hre a fa h2) (code_sim hcs hn hre b fb h3)) (code_sim hcs hn hre rest fr h4) r s h kn kx res k hr
        rw [evCode]
        exact this
      · cases hc
    · cases hc
  · rename_i id ops draw t a b
    split at hc
    · rename_i bf gs cf fa fb h1 h2 h3
      split at hc
      · rename_i src hl
        simp only [Option.some.injEq] at hc
        subst hc
        exact regc_sim hcs hn h1 hl (code_sim hcs hn hre a fa h2) (code_sim hcs hn hre b fb h3)
      · cases hc
    · cases hc
  · rename_i a b _ _
    split at hc
    · rename_i fa fb h1 h2
      simp only [Option.some.injEq] at hc
      subst hc
      intro r s h kn kx res k hr
      have := simS_seq (code_sim hcs hn hre a fa h1) (code_sim hcs hn hre b fb h2) r s h kn kx res k hr
      rw [evCode]
      exact this
    · cases hc
  · rename_i t a b
    split at hc
    · rename_i kk fa fb h0 h1 h2
      simp only [Option.some.injEq] at hc
      subst hc
      intro r s h kn kx res k hr
      exact cond_simS (code_sim hcs hn hre a fa h1) (code_sim hcs hn hre b fb h2) (show s.ev (.tmp t) = (acc kk).get r from k.reg t kk h0) k hr
    · cases hc
  · rename_i v a b
    split at hc
    · rename_i fa fb h1 h2
      simp only [Option.some.injEq] at hc
      subst hc
      intro r s h kn kx res k hr
      exact cond_simS (code_sim hcs hn hre a fa h1) (code_sim hcs hn hre b fb h2) (show s.ev (.const v) = toAV v from rfl) k hr
    · cases hc
  · rename_i id c
    simp only [Option.map_eq_some_iff] at hc
    obtain ⟨f1, h1, rfl⟩ := hc
    intro r s h kn kx res k hr
    obtain ⟨e, s1, h2, r1, hh1, h3⟩ := code_sim hcs hn hre c f1 h1 r s h kn (fun e r h => onExit e id (kn r h) (kx e r h)) res k hr
    simp only [evCode, h2]
    cases e with
    | exit j =>
      have h4 : boolK (Nat.beq j id) (kn r1 hh1) (kx (.exit j) r1 hh1) = some res := h3.2
      rw [boolK_eq] at h4
      cases hj : Nat.beq j id with
      | true => rw [hj, cond_true] at h4; exact ⟨.normal, s1, by simp only [hj, cond_true], r1, hh1, h3.1, h4⟩
      | false => rw [hj, cond_false] at h4; exact ⟨.exit j, s1, by simp only [hj, cond_false], r1, hh1, h3.1, h4⟩
    | _ => exact ⟨_, s1, rfl, r1, hh1, h3⟩
  · rename_i c
    simp only [Option.map_eq_some_iff] at hc
    obtain ⟨f1, h1, rfl⟩ := hc
    intro r s h kn kx res k hr
    simp only [evCode]
    exact loop_sim (code_sim hcs hn hre c f1 h1) lf r s h k hr
  · rename_i c
    split at hc
    · rename_i f1 l h1 hl
      split at hc
      · rename_i rest hf
        have ho := cond_c hc
        replace hc := cond_some hc
        simp only [Option.map_eq_some_iff] at hc
        obtain ⟨f2, h2, rfl⟩ := hc
        intro r s h kn kx res k hr
        obtain ⟨e, s1, h3, h4⟩ := code_sim hcs hn hre c f1 h1 r s h kn (fun e r h => onGoto e l (jumpK (codeF T lf f2).f l (lf / 3) ck r h kn kx) (kx e r h)) res k hr
        rw [evCode, h3]
        exact jump_ans ho hf (hre c rest f2 l ho hf h2) h4
      · cases hc
    · cases hc
  · cases hc
termination_by SizeOf.sizeOf c
decreasing_by all_goals (subst_vars; simp only [Code.seq.sizeOf_spec, Code.cond.sizeOf_spec, Code.block.sizeOf_spec, Code.loop.sizeOf_spec, Code.scope.sizeOf_spec, Code.region.sizeOf_spec]; omega)

theorem re_sim {M : Nat → Option (List Nat)} {lf : Nat} (hcs : CallSim ck cs) (hn : NlOk nl) : ∀ (d G : Nat), d * (lf / 3) ≤ G → ReSim T lf ck nl n (compRe T M nl n d) (evRe cs T M lf G) (lf / 3)
  | 0, G, hG => fun c rest fc l _ _ h => by cases h
  | d + 1, G, hG => by
    intro c rest fc l ho hf hc
    have main : ∀ (j G : Nat), d * (lf / 3) + j ≤ G → SimS ck nl n (evRe cs T M lf G c rest) (jumpK (codeF T lf fc).f l j) := by
      intro j
      induction j with
      | zero => intro G _ r s h kn kx res k hr; cases hr
      | succ j ih =>
        intro G hG r s h kn kx res k hr
        obtain ⟨G', rfl⟩ : ∃ G', G = G' + 1 := ⟨G - 1, by omega⟩
        have hr : (codeF T lf fc).f ck r h kn (fun e r h => onGoto e l (jumpK (codeF T lf fc).f l j ck r h kn kx) (kx e r h)) = some res := hr
        obtain ⟨e, s1, h3, h4⟩ := code_sim hcs hn (re_sim hcs hn d G' (by omega)) rest fc hc r s h kn _ res k hr
        rw [evRe, h3]
        exact jump_ans ho hf (ih G' (by omega)) h4
    refine main (lf / 3) G ?_
    rw [Nat.add_mul, Nat.one_mul] at hG
    exact hG
end
section
theorem numbered_get : ∀ (l : List Nat) (i t k : Nat), assoc (numbered l i) t = some k → i ≤ k ∧ l[k - i]? = some t
  | [], i, t, k, h => by cases h
  | a :: l, i, t, k, h => by
    simp only [numbered, assoc] at h
    cases hb : Nat.beq a t with
    | true =>
      rw [hb, cond_true] at h
      rw [Nat.beq_eq] at hb
      injection h with h
      subst h hb
      simp
    | false =>
      rw [hb, cond_false] at h
      obtain ⟨h1, h2⟩ := numbered_get l (i + 1) t k h
      refine ⟨by omega, ?_⟩
      have : k - i = (k - (i + 1)) + 1 := by omega
      rw [this, List.getElem?_cons_succ]
      exact h2
theorem numbered_len : ∀ (l : List Nat) (i : Nat), (numbered l i).length = l.length
  | [], _ => rfl
  | _ :: l, i => by simp only [numbered, List.length_cons, numbered_len l]
theorem numbered_ok {l : List Nat} (h : Nat.ble (numbered l 0).length 64 = true) : NlOk (numbered l 0) := by
  rw [Nat.ble_eq, numbered_len] at h
  refine ⟨fun t k hk => ?_, fun t t' k h1 h2 => ?_⟩
  · have := (numbered_get l 0 t k hk).2
    have := (List.getElem?_eq_some_iff.1 this).1
    omega
  · have h1 := (numbered_get l 0 t k h1).2
    have h2 := (numbered_get l 0 t' k h2).2
    rw [h1] at h2
    injection h2

theorem zero_get {k : Nat} (hk : k < 64) : (acc k).get RF.zero = dflt := by
  rw [acc_get _ k hk]
  have : RF.zero.toList = List.replicate 64 dflt := rfl
  rw [this, List.getD_eq_getElem?_getD, List.getElem?_replicate]
  split <;> rfl

theorem argF_some {nl : List (Nat × Nat)} (hn : NlOk nl) {res : AEnd × FH} {c : RF → R'} : ∀ (m i : Nat) (r : RF) (l : List AV) (tm : Nat → Option AV), (∀ t k, assoc nl t = some k → (match tm t with
      | some v => v
      | none => .tuple []) = (acc k).get r) → (argF (argsOf nl m i)).f r l c = some res →
    ∃ tm' r', putArgs l i tm = some tm' ∧ c r' = some res ∧ ∀ t k, assoc nl t = some k → (match tm' t with
      | some v => v
      | none => .tuple []) = (acc k).get r'
  | 0, i, r, l, tm, hi, hr => by
    cases l with
    | nil => exact ⟨tm, r, rfl, hr, hi⟩
    | cons a l => cases hr
  | m + 1, i, r, l, tm, hi, hr => by
    simp only [argsOf] at hr
    cases l with
    | nil => cases ha : assoc nl i <;> rw [ha] at hr <;> cases hr
    | cons a l =>
      cases ha : assoc nl i with
      | none =>
        rw [ha] at hr
        obtain ⟨tm', r', h1, h2, h3⟩ := argF_some hn m (i + 1) r l (upd tm i (some a)) (fun t k hk => by
          rw [upd_get, if_neg]
          · exact hi t k hk
          · intro e
            subst e
            rw [ha] at hk
            cases hk) hr
        exact ⟨tm', r', h1, h2, h3⟩
      | some kk =>
        rw [ha] at hr
        obtain ⟨tm', r', h1, h2, h3⟩ := argF_some hn m (i + 1) ((acc kk).set r a) l (upd tm i (some a)) (fun t k hk => by
          rw [upd_get, acc_get_set r a (hn.lt t k hk) (hn.lt i kk ha)]
          by_cases e : t = i
          · subst e
            rw [ha] at hk
            injection hk with hk
            rw [if_pos rfl, if_pos hk.symm]
          · rw [if_neg e, if_neg]
            · exact hi t k hk
            · intro e2
              subst e2
              exact e (hn.inj t i k hk ha)) hr
        exact ⟨tm', r', h1, h2, h3⟩

theorem resF_some {T : Tab} {nl : List (Nat × Nat)} {n : Nat} {r : RF} {s : St} {h : FH} (k : RelC nl n r s h) {res : AEnd × FH} : ∀ (l : List ResultVar) (rs : List RSrc) (c : List AV → R'), resOf nl l = some rs → (resF T rs).f r h c = some res → ∃ vs, evResults T s l = some vs ∧ c vs = some res
  | [], rs, c, hs, hr => by
    simp only [resOf, Option.some.injEq] at hs
    subst hs
    exact ⟨[], rfl, hr⟩
  | .tmp t :: l, rs, c, hs, hr => by
    simp only [resOf] at hs
    split at hs
    · rename_i kk rs' h1 h2
      simp only [Option.some.injEq] at hs
      subst hs
      obtain ⟨vs, h3, h4⟩ := resF_some k l rs' _ h2 hr
      refine ⟨(acc kk).get r :: vs, ?_, h4⟩
      simp only [evResults, h3, Option.map_some]
      rw [show s.ev (.tmp t) = s.slot t from rfl, k.reg t kk h1]
    · cases hs
  | .cell a t :: l, rs, c, hs, hr => by
    simp only [resOf] at hs
    split at hs
    · rename_i kk rs' h1 h2
      simp only [Option.some.injEq] at hs
      subst hs
      have hev : s.ev (.tmp a) = (acc kk).get r := k.reg a kk h1
      cases hi : T.types.get t with
      | none => simp only [resF, hi] at hr; cases hr
      | some i =>
        cases hagg : i.td.agg with
        | none => simp only [resF, hi, hagg] at hr; cases hr
        | some ag =>
          cases ag with
          | true =>
            simp only [resF, hi, hagg] at hr
            obtain ⟨b, o, hb, hr⟩ := onPtr_some hr
            obtain ⟨cs, e, x, hg, hr⟩ := cellsK_some hr
            rw [dropK_eq] at hr
            obtain ⟨cs', ht, hr⟩ := takeF_some hr
            obtain ⟨vs, h3, h4⟩ := resF_some k l rs' _ h2 hr
            refine ⟨_, ?_, h4⟩
            simp only [evResults, evLoad, hev, hb, k.hp, hg, hi, hagg, ht, Option.map_some, h3]
          | false =>
            simp only [resF, hi, hagg] at hr
            obtain ⟨b, o, hb, hr⟩ := onPtr_some hr
            obtain ⟨cs, e, x, hg, hr⟩ := cellsK_some hr
            obtain ⟨v, ht, hr⟩ := nthK_some hr
            obtain ⟨vs, h3, h4⟩ := resF_some k l rs' _ h2 hr
            refine ⟨_, ?_, h4⟩
            simp only [evResults, evLoad, hev, hb, k.hp, hg, hi, hagg, ht, h3, Option.map_some]
    · cases hs

def SmSim (sf : SmF) (sm : CallF) : Prop := ∀ f args h, sm f args h.abs = (sf f args h).map fun x => (x.1, x.2.abs)

theorem fn_sim {T : Tab} {M : Nat → Option (List Nat)} {lf : Nat} {ck : CallK} {cs : CallF} (hcs : CallSim ck cs) {fn : Func} {x : FFn} (hx : compFn T M fn = some x) {callD : CallDF} {args : List AV} {h : FH} {k : AEnd → FH → R'} {res : AEnd × FH}
    (hr : (fnF T lf x).f ck args h k = some res) : ∃ c tm e h', fn.body = some c ∧ putArgs args 0 noTmp = some tm ∧ evEnd T callD fn (evCode cs T M lf (evRe cs T M lf lf) c ⟨tm, args.length + (fn.ntmps - args.length), h.abs, []⟩) = some (e, FH.abs h') ∧ k e h' = some res := by
  unfold compFn at hx
  split at hx
  · cases hx
  rename_i c hc
  dsimp only at hx
  have hl := cond_c hx
  replace hx := cond_some hx
  split at hx
  · rename_i fc rs h1 h2
    simp only [Option.some.injEq] at hx
    subst hx
    have hn := numbered_ok hl
    have hr : boolK (Nat.ble args.length fn.ntmps) ((argF (argsOf _ (fn.params.size + fn.nfree) 0)).f RF.zero args fun r =>
      (codeF T lf fc).f ck r h (fun r h => (resF T rs).f r h fun vs => k (.ret (oneOf vs)) h)
        (fun e r h => AExit.rec (motive := fun _ => R') none (fun _ => none) (fun _ => none) ((resF T rs).f r h fun vs => k (.ret (oneOf vs)) h) (fun v => k (.pan v) h) e)) none = some res := hr
    rw [boolK_eq] at hr
    have hb := cond_c hr
    replace hr := cond_some hr
    rw [Nat.ble_eq] at hb
    obtain ⟨tm, r, h3, h4, h5⟩ := argF_some hn _ 0 RF.zero args noTmp (fun t k hk => by rw [zero_get (hn.lt t k hk)]; rfl) hr
    have hre : ReSim T lf ck _ fn.ntmps (compRe T M _ fn.ntmps 2) (evRe cs T M lf lf) (lf / 3) := re_sim hcs hn 2 lf (by omega)
    have k0 : RelC _ fn.ntmps r ⟨tm, args.length + (fn.ntmps - args.length), h.abs, []⟩ h := ⟨h5, by show args.length + (fn.ntmps - args.length) = fn.ntmps; omega, rfl, rfl⟩
    obtain ⟨e, s1, h6, r1, hh1, h7⟩ := code_sim hcs hn hre c fc h1 r _ h _ _ res k0 h4
    rw [hc]
    cases e with
    | normal =>
      obtain ⟨vs, h8, h9⟩ := resF_some h7.1 _ rs _ h2 h7.2
      refine ⟨c, tm, _, hh1, rfl, h3, ?_, h9⟩
      simp only [h6, evEnd, h7.1.ds, evRet, h8, forceA_eq, h7.1.hp]
    | ret =>
      obtain ⟨vs, h8, h9⟩ := resF_some h7.1 _ rs _ h2 h7.2
      refine ⟨c, tm, _, hh1, rfl, h3, ?_, h9⟩
      simp only [h6, evEnd, h7.1.ds, evRet, h8, forceA_eq, h7.1.hp]
    | panic v =>
      refine ⟨c, tm, _, hh1, rfl, h3, ?_, h7.2.2⟩
      simp only [h6, evEnd, h7.1, h7.2.1]
    | exit id => exact absurd h7.2 (by simp)
    | goto l => exact absurd h7.2 (by simp)
  · cases hx

theorem run_sim {T : Tab} {M : Nat → Nat → Option (List Nat)} {lf : Nat} {sf : SmF} {sm : CallF} (hs : SmSim sf sm) : ∀ n, CallSim (runK sf T M lf n) (evCall sm T M lf n)
  | 0 => fun f args h k res hr => by cases hr
  | n + 1 => fun f args h k res hr => by
    have hr : (Option.rec (motive := fun _ => R') (Option.rec (motive := fun _ => R') none (fun x => x.f (runK sf T M lf n) args h k) (fnO T M lf f).f) (fun x => k x.1 x.2) (sf f args h) : R') = some res := hr
    simp only [evCall, hs f args h]
    cases hsf : sf f args h with
    | some x =>
      rw [hsf] at hr
      exact ⟨x.1, x.2, rfl, hr⟩
    | none =>
      rw [hsf] at hr
      simp only [Option.map_none]
      unfold fnO at hr
      cases hf : T.funs.get f with
      | none => rw [hf] at hr; cases hr
      | some fn =>
        rw [hf] at hr
        cases hx : compFn T (M f) fn with
        | none => simp only [hx] at hr; cases hr
        | some x =>
          simp only [hx] at hr
          obtain ⟨c, tm, e, h', h1, h2, h3, h4⟩ := fn_sim (callD := evCallD (evCall sm T M lf n) T M lf) (run_sim hs n) hx hr
          refine ⟨e, h', ?_, h4⟩
          simp only [h1, h2]
          exact h3

theorem noSm_sim : SmSim noSmF noSum := fun _ _ _ => rfl
theorem empty_abs : FH.empty.abs = Hp.empty := by
  have : (Tr.nil : Tr AO).get = fun _ => none := by
    funext k
    exact Tr.get_nil k
  simp only [FH.abs, FH.empty, Hp.empty, this]
theorem runB_ev {T : Tab} {M : Nat → Nat → Option (List Nat)} {lf n f : Nat} {args : List AV} {sf : SmF} {sm : CallF} (hs : SmSim sf sm) (h : runB sf T M lf n f args = true) : ∃ h', evCall sm T M lf n f args Hp.empty = some (.ret (.flat (.bool true)), h') := by
  unfold runB at h
  split at h
  · rename_i c hh hr
    subst h
    obtain ⟨e, h', h1, h2⟩ := run_sim hs n f args FH.empty _ _ hr
    rw [empty_abs] at h1
    simp only [Option.some.injEq, Prod.mk.injEq] at h2
    rw [h2.1] at h1
    exact ⟨_, h1⟩
  · cases h
/-- A call of plain values that answers true: by the kernel's run of the fast evaluator. -/
theorem closed_fast {P : Program} {T : Tab} {m : Tr (Tr (List Nat))} (k : Tables' P T m) (hm : P.follows .mixedOrders = true) {sf : SmF} {sm : CallF} (hf : SmSim sf sm) (hs : CallOk P sm) (hsl : CallLe sm) (lf n f : Nat) (args : List Value)
    (h : runB sf T (maskOf m) lf n f (args.map .flat) = true) (w : World) : Calls P f ⟨args⟩ w fun e w' => e = .returned (.bool true) ∧ RowKit.Below w.heap.size w w' := by
  refine closed_callA k hm hs hsl lf n f args true ?_ w
  obtain ⟨h', h1⟩ := runB_ev hf h
  simp only [h1, cond_true]
end
section
/-! ### values that hold no address -/
mutual
def pv : AV → Option Value
  | .flat v => some v
  | .agg l => match pvs l with
    | some l => some (.agg ⟨l⟩)
    | none => none
  | .tuple l => match pvs l with
    | some l => some (.tuple ⟨l⟩)
    | none => none
  | _ => none
def pvs : List AV → Option (List Value)
  | [] => some []
  | a :: l => match pv a, pvs l with
    | some x, some y => some (x :: y)
    | _, _ => none
end
mutual
theorem pv_rel {ρ : Ren} : ∀ (a : AV) (v : Value), pv a = some v → ∀ x, AV.rel ρ a x ↔ x = v
  | .flat u, v, h, x => by
    simp only [pv, Option.some.injEq] at h
    subst h
    simp only [AV.rel]
  | .agg l, v, h, x => by
    simp only [pv] at h
    split at h
    · rename_i l' hl
      simp only [Option.some.injEq] at h
      subst h
      simp only [AV.rel, pvs_rel l l' hl]
      exact ⟨fun ⟨y, h1, h2⟩ => h2 ▸ h1, fun h => ⟨l', h, rfl⟩⟩
    · cases h
  | .tuple l, v, h, x => by
    simp only [pv] at h
    split at h
    · rename_i l' hl
      simp only [Option.some.injEq] at h
      subst h
      simp only [AV.rel, pvs_rel l l' hl]
      exact ⟨fun ⟨y, h1, h2⟩ => h2 ▸ h1, fun h => ⟨l', h, rfl⟩⟩
    · cases h
  | .ptr _ _, v, h, x => by simp [pv] at h
  | .slice _ _ _ _, v, h, x => by simp [pv] at h
  | .map _, v, h, x => by simp [pv] at h
  | .func _ _ _, v, h, x => by simp [pv] at h
  | .iface _ _, v, h, x => by simp [pv] at h
theorem pvs_rel {ρ : Ren} : ∀ (a : List AV) (v : List Value), pvs a = some v → ∀ x, AV.relL ρ a x ↔ x = v
  | [], v, h, x => by
    simp only [pvs, Option.some.injEq] at h
    subst h
    simp only [AV.relL]
  | a :: l, v, h, x => by
    simp only [pvs] at h
    split at h
    · rename_i y ys h1 h2
      simp only [Option.some.injEq] at h
      subst h
      simp only [AV.relL, pv_rel a y h1, pvs_rel l ys h2]
      exact ⟨fun ⟨z, zs, h3, h4, h5⟩ => by rw [h3, h4, h5], fun h => ⟨y, ys, h, rfl, rfl⟩⟩
    · cases h
end
theorem zeq_eq : ∀ {a b : Int}, zeq a b = true → a = b
  | .ofNat a, .ofNat b, h => by simp only [zeq, Nat.beq_eq] at h; rw [h]
  | .negSucc a, .negSucc b, h => by simp only [zeq, Nat.beq_eq] at h; rw [h]
  | .ofNat a, .negSucc b, h => by cases h
  | .negSucc a, .ofNat b, h => by cases h
theorem feq_eq : ∀ {a b : Value}, feq a b = true → a = b := by
  intro a b h
  unfold feq at h
  split at h
  · simp only [Bool.and_eq_true, decide_eq_true_eq] at h
    rw [h.1, zeq_eq h.2]
  · rename_i a b
    cases a <;> cases b <;> first | rfl | cases h
  · cases h
theorem ceq_eq : ∀ {a b : Cap}, ceq a b = true → a = b
  | .exact a, .exact b, h => by simp only [ceq, Nat.beq_eq] at h; rw [h]
  | .toEnd a, .toEnd b, h => by simp only [ceq, Nat.beq_eq] at h; rw [h]
  | .exact a, .toEnd b, h => by cases h
  | .toEnd a, .exact b, h => by cases h
mutual
theorem aeq_eq : ∀ (a b : AV), aeq a b = true → a = b
  | .flat u, b, h => by
    cases b <;> simp only [aeq] at h <;> first | (rw [feq_eq h]) | cases h
  | .agg l, b, h => by
    cases b <;> simp only [aeq] at h <;> first | (rw [aeqs_eq l _ h]) | cases h
  | .tuple l, b, h => by
    cases b <;> simp only [aeq] at h <;> first | (rw [aeqs_eq l _ h]) | cases h
  | .ptr _ _, b, h => by
    cases b <;> simp only [aeq] at h <;> first | (simp only [Bool.and_eq_true, Nat.beq_eq] at h; rw [h.1, h.2]) | cases h
  | .slice _ _ _ _, b, h => by
    cases b <;> simp only [aeq] at h <;> first | (simp only [Bool.and_eq_true, Nat.beq_eq] at h; rw [h.1.1, h.1.2, h.2.1, ceq_eq h.2.2]) | cases h
  | .map _, b, h => by simp [aeq] at h
  | .func _ _ _, b, h => by simp [aeq] at h
  | .iface _ _, b, h => by simp [aeq] at h
theorem aeqs_eq : ∀ (a b : List AV), aeqs a b = true → a = b
  | [], b, h => by cases b <;> simp only [aeqs] at h <;> first | rfl | cases h
  | x :: l, b, h => by
    cases b with
    | nil => simp [aeqs] at h
    | cons y l' =>
      simp only [aeqs, Bool.and_eq_true] at h
      rw [aeq_eq x y h.1, aeqs_eq l l' h.2]
end

/-! ### answers known ahead -/
/-- one call -/
def memo (f : FuncId) (args0 : List AV) (v : AV) : CallF := fun f' args h => cond (Nat.beq f f') (cond (aeqs args args0) (some (.ret v, h)) none) none
theorem memo_sim (f : FuncId) (args0 : List AV) (v : AV) : SmSim (memoF f args0 v) (memo f args0 v) := fun f' args h => by
  unfold memoF memo
  cases Nat.beq f f' with
  | false => rfl
  | true => cases h2 : aeqs args args0 <;> simp only [cond_true, cond_false, Option.map_none, Option.map_some]
theorem memo_ok {P : Program} {f : FuncId} {args0 : List AV} {v : AV} {l : List Value} {x : Value} (hl : pvs args0 = some l) (hv : pv v = some x) (hg : ∀ w, Calls P f ⟨l⟩ w fun e w' => e = .returned x ∧ RowKit.Below w.heap.size w w') : CallOk P (memo f args0 v) := by
  intro f' args h e h' k D ρ w args' hr fr ha
  unfold memo at k
  have hf := cond_c k
  replace k := cond_some k
  have h2 := cond_c k
  replace k := cond_some k
  rw [Nat.beq_eq] at hf
  subst hf
  simp only [Option.some.injEq, Prod.mk.injEq] at k
  obtain ⟨rfl, rfl⟩ := k
  have h3 := aeqs_eq _ _ h2
  subst h3
  have h4 := (pvs_rel _ _ hl args').1 ha
  subst h4
  refine (hg w).mono ?_
  rintro e w' ⟨rfl, hb⟩
  exact ⟨ρ, Step.below hr hb, x, rfl, (pv_rel v x hv x).2 rfl⟩
theorem memo_le {f : FuncId} {args0 : List AV} {v : AV} : CallLe (memo f args0 v) := by
  intro f' args h e h' k
  unfold memo at k
  replace k := cond_some k
  replace k := cond_some k
  simp only [Option.some.injEq, Prod.mk.injEq] at k
  rw [← k.2]
  exact Hp.Le.refl _
theorem or_sim {a b : SmF} {a' b' : CallF} (ha : SmSim a a') (hb : SmSim b b') : SmSim (orF a b) (sumOr a' b') := fun f args h => by
  simp only [orF, sumOr, ha f args h, hb f args h]
  cases a f args h <;> rfl
/-- what is known ahead, all of it -/
structure Known (P : Program) where
  sf : SmF
  sm : CallF
  sim : SmSim sf sm
  ok : CallOk P sm
  le : CallLe sm
def Known.none (P : Program) : Known P := ⟨noSmF, noSum, noSm_sim, noSum_ok, noSum_le⟩
def Known.add {P : Program} (k : Known P) (f : FuncId) (args0 : List AV) (v : AV) (l : List Value) (x : Value) (hl : pvs args0 = some l) (hv : pv v = some x) (hg : ∀ w, Calls P f ⟨l⟩ w fun e w' => e = .returned x ∧ RowKit.Below w.heap.size w w') : Known P :=
  ⟨orF (memoF f args0 v) k.sf, sumOr (memo f args0 v) k.sm, or_sim (memo_sim f args0 v) k.sim, sumOr_ok (memo_ok hl hv hg) k.ok, sumOr_le memo_le k.le⟩

/-- A closed call that answers a plain value: by the kernel's run of the fast evaluator. -/
theorem closed_fastV {P : Program} {T : Tab} {m : Tr (Tr (List Nat))} (k : Tables' P T m) (hm : P.follows .mixedOrders = true) {sf : SmF} {sm : CallF} (hf : SmSim sf sm) (hs : CallOk P sm) (hsl : CallLe sm) (lf n f : Nat) (args : List AV) (v : AV) (l : List Value) (x : Value) (hl : pvs args = some l) (hv : pv v = some x)
    (h : runV sf T (maskOf m) lf n f args v = true) (w : World) : Calls P f ⟨l⟩ w fun e w' => e = .returned x ∧ RowKit.Below w.heap.size w w' := by
  unfold runV at h
  split at h
  · rename_i u hh hr
    have hu := aeq_eq _ _ h
    subst hu
    obtain ⟨e, h', h1, h2⟩ := run_sim hf n f args FH.empty _ _ hr
    rw [empty_abs] at h1
    simp only [Option.some.injEq, Prod.mk.injEq] at h2
    rw [h2.1] at h1
    have := evCall_sound k.ok k.regs (lf := lf) (fun call hc hcl => draw_ok k.ok hm call hc hcl) hs hsl n f args Hp.empty _ _ h1 (fun b => w.heap.size ≤ b) (fun _ => none) w l (HR.empty w) (fun _ _ _ => rfl) ((pvs_rel _ _ hl l).2 rfl)
    refine this.mono ?_
    rintro e w' ⟨ρ', st, v', rfl, hv'⟩
    have := (pv_rel u x hv v').1 hv'
    subst this
    exact ⟨rfl, st.fr.os, st.fr.tape, st.fr.output, st.fr.size, fun i hi => st.fr.block i hi (by omega)⟩
  · cases h
end
section
mutual
theorem rel_sh {ρ ρ' : Ren} {k : Nat} (h : ∀ i x, ρ i = some x → ρ' (k + i) = some x) : ∀ (a : AV) (v : Value), AV.rel ρ a v → AV.rel ρ' (sh k a) v
  | .flat u, v, r => by simp only [sh, AV.rel] at r ⊢; exact r
  | .ptr b o, v, r => by
    simp only [sh, AV.rel] at r ⊢
    obtain ⟨b', n', h1, h2⟩ := r
    exact ⟨b', n', h _ _ h1, h2⟩
  | .slice b o n (.exact c), v, r => by
    simp only [sh, AV.rel] at r ⊢
    obtain ⟨b', n', h1, h2⟩ := r
    exact ⟨b', n', h _ _ h1, h2⟩
  | .slice b o n (.toEnd c), v, r => by
    simp only [sh, AV.rel] at r ⊢
    obtain ⟨b', n', c', h1, h2⟩ := r
    exact ⟨b', n', c', h _ _ h1, h2⟩
  | .map b, v, r => by
    simp only [sh, AV.rel] at r ⊢
    obtain ⟨b', n', h1, h2⟩ := r
    exact ⟨b', n', h _ _ h1, h2⟩
  | .func fn a b, v, r => by
    simp only [sh, AV.rel] at r ⊢
    obtain ⟨f', c', h1, h2, h3⟩ := r
    exact ⟨f', c', h1, rel_shs h a f' h2, rel_shs h b c' h3⟩
  | .iface t x, v, r => by
    simp only [sh, AV.rel] at r ⊢
    obtain ⟨y, h1, h2⟩ := r
    exact ⟨y, h1, rel_sh h x y h2⟩
  | .agg l, v, r => by
    simp only [sh, AV.rel] at r ⊢
    obtain ⟨l', h1, h2⟩ := r
    exact ⟨l', h1, rel_shs h l l' h2⟩
  | .tuple l, v, r => by
    simp only [sh, AV.rel] at r ⊢
    obtain ⟨l', h1, h2⟩ := r
    exact ⟨l', h1, rel_shs h l l' h2⟩
theorem rel_shs {ρ ρ' : Ren} {k : Nat} (h : ∀ i x, ρ i = some x → ρ' (k + i) = some x) : ∀ (a : List AV) (v : List Value), AV.relL ρ a v → AV.relL ρ' (shs k a) v
  | [], v, r => by simp only [shs, AV.relL] at r ⊢; exact r
  | a :: l, v, r => by
    simp only [shs, AV.relL] at r ⊢
    obtain ⟨y, ys, h1, h2, h3⟩ := r
    exact ⟨y, ys, h1, rel_sh h a y h2, rel_shs h l ys h3⟩
end

/-- What a closed call's run on the empty heap says: its answer, and that nx blocks were made. -/
def RunsTo (P : Program) (f : FuncId) (l : List Value) (v : AV) (nx : Nat) : Prop :=
  ∀ w, Calls P f ⟨l⟩ w fun e' w' => ∃ ρ1 h1, h1.next = nx ∧ Step (fun b => w.heap.size ≤ b) (fun _ => none) Hp.empty w ρ1 h1 w' ∧ EndRel ρ1 (.ret v) e'
def memoH (f : FuncId) (args0 : List AV) (v : AV) (nx : Nat) : CallF := fun f' args h => cond (Nat.beq f f') (cond (aeqs args args0) (some (.ret (sh h.next v), ⟨h.next + nx, h.low, h.m⟩)) none) none
theorem memoH_sim (f : FuncId) (args0 : List AV) (v : AV) (nx : Nat) : SmSim (memoHF f args0 v nx) (memoH f args0 v nx) := fun f' args h => by
  unfold memoHF memoH
  cases Nat.beq f f' with
  | false => rfl
  | true => cases h2 : aeqs args args0 <;> simp only [cond_true, cond_false, Option.map_none, Option.map_some, forceN_eq] <;> rfl
theorem memoH_le {f : FuncId} {args0 : List AV} {v : AV} {nx : Nat} : CallLe (memoH f args0 v nx) := by
  intro f' args h e h' k
  unfold memoH at k
  replace k := cond_some k
  replace k := cond_some k
  simp only [Option.some.injEq, Prod.mk.injEq] at k
  rw [← k.2]
  exact ⟨Nat.le_add_right _ _, Nat.le_refl _, fun _ _ _ => rfl, fun hb i hi => hb i (Nat.le_trans (Nat.le_add_right _ _) hi)⟩
theorem memoH_ok {P : Program} {f : FuncId} {args0 : List AV} {v : AV} {nx : Nat} {l : List Value} (hl : pvs args0 = some l) (hg : RunsTo P f l v nx) : CallOk P (memoH f args0 v nx) := by
  intro f' args h e h' k D ρ w args' hr fr ha
  unfold memoH at k
  have hf := cond_c k
  replace k := cond_some k
  have h2 := cond_c k
  replace k := cond_some k
  rw [Nat.beq_eq] at hf
  subst hf
  simp only [Option.some.injEq, Prod.mk.injEq] at k
  obtain ⟨rfl, rfl⟩ := k
  have h3 := aeqs_eq _ _ h2
  subst h3
  have h4 := (pvs_rel _ _ hl args').1 ha
  subst h4
  refine (hg w).mono ?_
  rintro e' w' ⟨ρ1, h1, hn, st, er⟩
  have he : Hp.empty.next = 0 := rfl
  have hdom : ∀ i x, ρ1 i = some x → i < nx := fun i x hx => by
    rcases Nat.lt_or_ge i nx with h5 | h5
    · exact h5
    · have := st.dom i (.inr (by rw [hn]; exact h5))
      rw [hx] at this
      cases this
  let ρ' : Ren := fun i => if h.next ≤ i ∧ i < h.next + nx then ρ1 (i - h.next) else ρ i
  have old : ∀ i, ¬ (h.next ≤ i ∧ i < h.next + nx) → ρ' i = ρ i := fun i hi => if_neg hi
  have hle : Ren.le ρ ρ' := fun i x hx => by
    by_cases h5 : h.next ≤ i ∧ i < h.next + nx
    · have := fr i h5.1 h5.2
      rw [hx] at this
      cases this
    · rw [old i h5]; exact hx
  have low : ∀ i, h.get i ≠ none → i < h.next := fun i hi => by
    rcases Nat.lt_or_ge i h.next with h5 | h5
    · exact h5
    · exact absurd (hr.born i h5) hi
  refine ⟨ρ', ⟨⟨fun i b n o hρ hg => ?_, fun i j b n m h5 h6 h7 h8 => ?_, fun i hi => ?_, fun b hb => hr.far b (Nat.le_trans st.fr.size hb)⟩, hle, ⟨st.fr.os, st.fr.tape, st.fr.output, st.fr.size, fun b hb _ => st.fr.block b hb (Nat.not_le.2 hb)⟩, Nat.le_add_right _ _, fun i hi => old i (fun h5 => by rcases hi with h7 | h7; exact absurd h7 (Nat.not_lt.2 h5.1); exact absurd h5.2 (Nat.not_lt.2 h7))⟩, ?_⟩
  · have hg : h.get i = some o := hg
    have hi := low i (by rw [hg]; simp)
    rw [old i (by omega)] at hρ
    obtain ⟨h5, o', h6, h7⟩ := hr.obj i b n o hρ hg
    have hlt : b < w.heap.size := (Array.getElem?_eq_some_iff.1 h6).1
    exact ⟨h5, o', by rw [st.fr.block b hlt (Nat.not_le.2 hlt)]; exact h6, AO.rel_mono hle h7⟩
  · have hi := low i h7
    have hj := low j h8
    rw [old i (by omega)] at h5
    rw [old j (by omega)] at h6
    exact hr.inj i j b n m h5 h6 h7 h8
  · exact hr.born i (Nat.le_trans (Nat.le_add_right _ _) hi)
  · obtain ⟨v', rfl, hv⟩ := er
    refine ⟨v', rfl, rel_sh (fun i x hx => ?_) v v' hv⟩
    have h5 := hdom i x hx
    show (if h.next ≤ h.next + i ∧ h.next + i < h.next + nx then ρ1 (h.next + i - h.next) else ρ (h.next + i)) = some x
    rw [if_pos ⟨by omega, by omega⟩, Nat.add_sub_cancel_left]
    exact hx
def Known.addH {P : Program} (k : Known P) (f : FuncId) (args0 : List AV) (v : AV) (nx : Nat) (l : List Value) (hl : pvs args0 = some l) (hg : RunsTo P f l v nx) : Known P :=
  ⟨orF (memoHF f args0 v nx) k.sf, sumOr (memoH f args0 v nx) k.sm, or_sim (memoH_sim f args0 v nx) k.sim, sumOr_ok (memoH_ok hl hg) k.ok, sumOr_le memoH_le k.le⟩

theorem closed_fastH {P : Program} {T : Tab} {m : Tr (Tr (List Nat))} (k : Tables' P T m) (hm : P.follows .mixedOrders = true) {sf : SmF} {sm : CallF} (hf : SmSim sf sm) (hs : CallOk P sm) (hsl : CallLe sm) (lf n f : Nat) (args : List AV) (v : AV) (nx : Nat) (l : List Value) (hl : pvs args = some l)
    (h : runH sf T (maskOf m) lf n f args v nx = true) : RunsTo P f l v nx := by
  intro w
  unfold runH at h
  split at h
  · rename_i u hh hr
    simp only [Bool.and_eq_true, Nat.beq_eq] at h
    have hu := aeq_eq _ _ h.1
    subst hu
    obtain ⟨e, h', h1, h2⟩ := run_sim hf n f args FH.empty _ _ hr
    rw [empty_abs] at h1
    simp only [Option.some.injEq, Prod.mk.injEq] at h2
    rw [h2.1, h2.2] at h1
    have := evCall_sound k.ok k.regs (lf := lf) (fun call hc hcl => draw_ok k.ok hm call hc hcl) hs hsl n f args Hp.empty _ _ h1 (fun b => w.heap.size ≤ b) (fun _ => none) w l (HR.empty w) (fun _ _ _ => rfl) ((pvs_rel _ _ hl l).2 rfl)
    refine this.mono ?_
    rintro e w' ⟨ρ', st, er⟩
    exact ⟨ρ', hh.abs, h.2, st, er⟩
  · cases h
end
end Go.Ev
