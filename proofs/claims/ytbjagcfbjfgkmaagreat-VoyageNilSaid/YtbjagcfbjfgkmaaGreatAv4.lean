/- The evaluator once more, for the kernel (kaev_eq: the same answers), and a call's contract out of its answer (calls_true). Conditions: as in the first part. -/
import Derived.Test.YtbjagcfbjfgkmaaGreatAv1
import Derived.Test.YtbjagcfbjfgkmaaGreatAv3
import Derived.Below
import Derived.Lib.Bytealg
import Derived.Laws.Externs
/- For the kernel: the small map by recursors alone. -/
namespace Go.Av
namespace T
variable {α : Type}

/-- A place that was reckoned, dynamic. -/
noncomputable def rget (t : T α) (i : Nat) : Option α :=
  T.rec (motive := fun _ => Nat → Option α) (fun _ => none)
    (fun _ v _ ihl ihr i => Nat.rec (motive := fun _ => Option α) v (fun j _ => Bool.rec (motive := fun _ => Option α) (ihr (j / 2)) (ihl (j / 2)) (Nat.beq (j % 2) 0)) i) t i
theorem rget_eq (t : T α) (i : Nat) : t.rget i = t.get i := by
  induction t generalizing i with
  | leaf => cases i <;> rfl
  | node l v r ihl ihr =>
    rw [get_node]
    cases i with
    | zero => rfl
    | succ j =>
      change Bool.rec (motive := fun _ => Option α) (r.rget (j / 2)) (l.rget (j / 2)) (Nat.beq (j % 2) 0) = _
      rw [if_neg (by omega)]
      by_cases h : j % 2 = 0
      · rw [h, if_pos (by omega)]
        change l.rget (j / 2) = _
        rw [ihl]; congr 1; omega
      · have h1 : j % 2 = 1 := by omega
        rw [h1, if_neg (by omega)]
        change r.rget (j / 2) = _
        rw [ihr]; congr 1; omega

/-- A place that is known ahead. -/
structure G (α : Type) where run : T α → Option α
structure S (α : Type) where run : T α → α → T α
noncomputable def gOf (n : Nat) : Nat → G α := Nat.rec (motive := fun _ => Nat → G α) (fun _ => ⟨fun t => T.rec (motive := fun _ => Option α) none (fun _ v _ _ _ => v) t⟩)
  (fun _ ih i => Nat.rec (motive := fun _ => G α) ⟨fun t => T.rec (motive := fun _ => Option α) none (fun _ v _ _ _ => v) t⟩
    (fun j _ => Bool.rec (motive := fun _ => G α) ⟨fun t => T.rec (motive := fun _ => Option α) none (fun _ _ r _ _ => (ih (j / 2)).run r) t⟩
      ⟨fun t => T.rec (motive := fun _ => Option α) none (fun l _ _ _ _ => (ih (j / 2)).run l) t⟩ (Nat.beq (j % 2) 0)) i) n
theorem gOf_eq (n i : Nat) (h : i ≤ n) (t : T α) : (gOf n i).run t = t.get i := by
  induction n generalizing i t with
  | zero =>
    obtain rfl : i = 0 := by omega
    cases t <;> rfl
  | succ n ih =>
    cases i with
    | zero => cases t <;> rfl
    | succ j =>
      change (Bool.rec (motive := fun _ => G α) ⟨fun t => T.rec (motive := fun _ => Option α) none (fun _ _ r _ _ => (gOf n (j / 2)).run r) t⟩
        ⟨fun t => T.rec (motive := fun _ => Option α) none (fun l _ _ _ _ => (gOf n (j / 2)).run l) t⟩ (Nat.beq (j % 2) 0)).run t = _
      by_cases h2 : j % 2 = 0
      · rw [h2]
        cases t with
        | leaf => rw [get_leaf]; rfl
        | node l v r =>
          rw [get_node, if_neg (by omega), if_pos (by omega)]
          change (gOf n (j / 2)).run l = _
          rw [ih _ (by omega)]; congr 1; omega
      · have h1 : j % 2 = 1 := by omega
        rw [h1]
        cases t with
        | leaf => rw [get_leaf]; rfl
        | node l v r =>
          rw [get_node, if_neg (by omega), if_neg (by omega)]
          change (gOf n (j / 2)).run r = _
          rw [ih _ (by omega)]; congr 1; omega

/-- What is laid is forced on the way. -/
noncomputable def inL (c : T α) (w : Option α) (r : T α) : T α := T.rec (motive := fun _ => Option α → T α → T α) (fun w r => .node .leaf w r) (fun a b c _ _ w r => .node (.node a b c) w r) c w r
noncomputable def inR (c : T α) (l : T α) (w : Option α) : T α := T.rec (motive := fun _ => T α → Option α → T α) (fun l w => .node l w .leaf) (fun a b c _ _ l w => .node l w (.node a b c)) c l w
theorem inL_eq (c : T α) (w : Option α) (r : T α) : inL c w r = .node c w r := by cases c <;> rfl
theorem inR_eq (c : T α) (l : T α) (w : Option α) : inR c l w = .node l w c := by cases c <;> rfl
noncomputable def sOf (n : Nat) : Nat → S α := Nat.rec (motive := fun _ => Nat → S α) (fun _ => ⟨fun t v => T.rec (motive := fun _ => α → T α) (fun v => .node .leaf (some v) .leaf) (fun l _ r _ _ v => .node l (some v) r) t v⟩)
  (fun _ ih i => Nat.rec (motive := fun _ => S α) ⟨fun t v => T.rec (motive := fun _ => α → T α) (fun v => .node .leaf (some v) .leaf) (fun l _ r _ _ v => .node l (some v) r) t v⟩
    (fun j _ => Bool.rec (motive := fun _ => S α)
      ⟨fun t v => T.rec (motive := fun _ => α → T α) (fun v => inR ((ih (j / 2)).run .leaf v) .leaf none) (fun l w r _ _ v => inR ((ih (j / 2)).run r v) l w) t v⟩
      ⟨fun t v => T.rec (motive := fun _ => α → T α) (fun v => inL ((ih (j / 2)).run .leaf v) none .leaf) (fun l w r _ _ v => inL ((ih (j / 2)).run l v) w r) t v⟩ (Nat.beq (j % 2) 0)) i) n
theorem single_fuel (n m i : Nat) (v : α) (h : i ≤ n) (h' : i ≤ m) : single n i v = single m i v := by
  induction n generalizing m i with
  | zero =>
    obtain rfl : i = 0 := by omega
    cases m <;> rfl
  | succ n ih =>
    cases m with
    | zero =>
      obtain rfl : i = 0 := by omega
      rfl
    | succ m =>
      simp only [single, cond_eq_ite, Nat.beq_eq]
      by_cases h0 : i = 0
      · simp [h0]
      · simp only [h0, if_false]
        rw [ih m (i / 2) (by omega) (by omega), ih m (i / 2 - 1) (by omega) (by omega)]
theorem set_leaf (i : Nat) (v : α) : (leaf : T α).set i v = if i = 0 then .node .leaf (some v) .leaf else if i % 2 = 1 then .node ((leaf : T α).set (i / 2) v) none .leaf else .node .leaf none ((leaf : T α).set (i / 2 - 1) v) := by
  simp only [set]
  cases i with
  | zero => rfl
  | succ j =>
    simp only [single, cond_eq_ite, Nat.beq_eq]
    rw [single_fuel j ((j + 1) / 2) ((j + 1) / 2) v (by omega) (by omega)]
    by_cases h1 : (j + 1) % 2 = 1
    · rw [if_pos h1, if_pos h1]
    · rw [if_neg h1, if_neg h1, single_fuel j ((j + 1) / 2 - 1) ((j + 1) / 2 - 1) v (by omega) (by omega)]
theorem set_node (l : T α) (w : Option α) (r : T α) (i : Nat) (v : α) : (node l w r).set i v = if i = 0 then .node l (some v) r else if i % 2 = 1 then .node (l.set (i / 2) v) w r else .node l w (r.set (i / 2 - 1) v) := by
  simp only [set, cond_eq_ite, Nat.beq_eq]
theorem sOf_eq (n i : Nat) (h : i ≤ n) (t : T α) (v : α) : (sOf n i).run t v = t.set i v := by
  induction n generalizing i t with
  | zero =>
    obtain rfl : i = 0 := by omega
    cases t <;> rfl
  | succ n ih =>
    cases i with
    | zero => cases t <;> rfl
    | succ j =>
      change (Bool.rec (motive := fun _ => S α)
      ⟨fun t v => T.rec (motive := fun _ => α → T α) (fun v => inR ((sOf n (j / 2)).run .leaf v) .leaf none) (fun l w r _ _ v => inR ((sOf n (j / 2)).run r v) l w) t v⟩
      ⟨fun t v => T.rec (motive := fun _ => α → T α) (fun v => inL ((sOf n (j / 2)).run .leaf v) none .leaf) (fun l w r _ _ v => inL ((sOf n (j / 2)).run l v) w r) t v⟩ (Nat.beq (j % 2) 0)).run t v = _
      by_cases h2 : j % 2 = 0
      · rw [h2]
        have e : j / 2 = (j + 1) / 2 := by omega
        cases t with
        | leaf =>
          rw [set_leaf, if_neg (by omega), if_pos (by omega)]
          change inL ((sOf n (j / 2)).run .leaf v) none .leaf = _
          rw [inL_eq, ih _ (by omega), e]
        | node l w r =>
          rw [set_node, if_neg (by omega), if_pos (by omega)]
          change inL ((sOf n (j / 2)).run l v) w r = _
          rw [inL_eq, ih _ (by omega), e]
      · have h1 : j % 2 = 1 := by omega
        have e : j / 2 = (j + 1) / 2 - 1 := by omega
        rw [h1]
        cases t with
        | leaf =>
          rw [set_leaf, if_neg (by omega), if_neg (by omega)]
          change inR ((sOf n (j / 2)).run .leaf v) .leaf none = _
          rw [inR_eq, ih _ (by omega), e]
        | node l w r =>
          rw [set_node, if_neg (by omega), if_neg (by omega)]
          change inR ((sOf n (j / 2)).run r v) l w = _
          rw [inR_eq, ih _ (by omega), e]

/-- A place that was reckoned: set, forced. -/
noncomputable def rset1 (n : Nat) : Nat → α → T α := Nat.rec (motive := fun _ => Nat → α → T α) (fun _ v => .node .leaf (some v) .leaf)
  (fun _ ih i v => Nat.rec (motive := fun _ => (Nat → α → T α) → α → T α) (fun _ v => .node .leaf (some v) .leaf) (fun j _ ih v => Bool.rec (motive := fun _ => T α → T α) (fun c => inR c .leaf none) (fun c => inL c none .leaf) (Nat.beq (j % 2) 0) (ih (j / 2) v)) i ih v) n
theorem rset1_eq (n i : Nat) (h : i ≤ n) (v : α) : rset1 n i v = (leaf : T α).set i v := by
  induction n generalizing i with
  | zero =>
    obtain rfl : i = 0 := by omega
    rfl
  | succ n ih =>
    cases i with
    | zero => rfl
    | succ j =>
      change Bool.rec (motive := fun _ => T α → T α) (fun c => inR c .leaf none) (fun c => inL c none .leaf) (Nat.beq (j % 2) 0) (rset1 n (j / 2) v) = _
      rw [set_leaf, if_neg (by omega), ih _ (by omega)]
      by_cases h2 : j % 2 = 0
      · rw [h2, if_pos (by omega)]
        change inL _ none .leaf = _
        rw [inL_eq, show j / 2 = (j + 1) / 2 by omega]
      · have h1 : j % 2 = 1 := by omega
        rw [h1, if_neg (by omega)]
        change inR _ .leaf none = _
        rw [inR_eq, show j / 2 = (j + 1) / 2 - 1 by omega]
noncomputable def rset (t : T α) (i : Nat) (v : α) : T α :=
  T.rec (motive := fun _ => Nat → α → T α) (fun i v => rset1 i i v)
    (fun l w r ihl ihr i v => Nat.rec (motive := fun _ => T α → Option α → T α → (Nat → α → T α) → (Nat → α → T α) → α → T α) (fun l _ r _ _ v => .node l (some v) r)
      (fun j _ l w r ihl ihr v => Bool.rec (motive := fun _ => T α → Option α → T α → (Nat → α → T α) → (Nat → α → T α) → Nat → α → T α) (fun l w _ _ ihr j v => inR (ihr j v) l w) (fun _ w r ihl _ j v => inL (ihl j v) w r) (Nat.beq (j % 2) 0) l w r ihl ihr (j / 2) v) i l w r ihl ihr v) t i v
theorem rset_eq (t : T α) (i : Nat) (v : α) : t.rset i v = t.set i v := by
  induction t generalizing i with
  | leaf => exact rset1_eq i i (Nat.le_refl _) v
  | node l w r ihl ihr =>
    cases i with
    | zero => rfl
    | succ j =>
      change Bool.rec (motive := fun _ => T α → Option α → T α → (Nat → α → T α) → (Nat → α → T α) → Nat → α → T α) (fun l w _ _ ihr j v => inR (ihr j v) l w) (fun _ w r ihl _ j v => inL (ihl j v) w r) (Nat.beq (j % 2) 0) l w r l.rset r.rset (j / 2) v = _
      rw [set_node, if_neg (by omega)]
      by_cases h2 : j % 2 = 0
      · rw [h2, if_pos (by omega)]
        change inL (l.rset (j / 2) v) w r = _
        rw [inL_eq, ihl, show j / 2 = (j + 1) / 2 by omega]
      · have h1 : j % 2 = 1 := by omega
        rw [h1, if_neg (by omega)]
        change inR (r.rset (j / 2) v) l w = _
        rw [inR_eq, ihr, show j / 2 = (j + 1) / 2 - 1 by omega]
end T
end Go.Av

/- For the kernel: numbers, forced; the operations on two of them. -/
namespace Go.Av

/-- A kind's number. -/
noncomputable def kix (k : IntKind) : Nat := IntKind.rec (motive := fun _ => Nat) 0 1 2 3 4 5 6 7 k
/-- What fits below. -/
noncomputable def kcap (k : IntKind) : Nat := IntKind.rec (motive := fun _ => Nat) 128 32768 2147483648 9223372036854775808 256 65536 4294967296 18446744073709551616 k
noncomputable def kpow (k : IntKind) : Nat := IntKind.rec (motive := fun _ => Nat) 256 65536 4294967296 18446744073709551616 256 65536 4294967296 18446744073709551616 k
theorem kix_eq (a b : IntKind) : Nat.beq (kix a) (kix b) = decide (a = b) := by cases a <;> cases b <;> rfl
theorem kpow_eq (k : IntKind) : kpow k = 2 ^ k.bits := by cases k <;> rfl
theorem wrap_fits (k : IntKind) (n : Nat) (h : n < kcap k) : k.wrap (.ofNat n) = .ofNat n := by
  have e : (Int.ofNat n : Int) = (n : Int) := rfl
  rw [e]
  cases k <;> simp only [kcap] at h <;> simp only [IntKind.wrap, IntKind.bits, IntKind.signed, Int.reducePow, Nat.reduceSub, Bool.true_and, Bool.false_and, decide_eq_true_eq, ge_iff_le, Bool.false_eq_true, if_false]
  all_goals first | omega | (split <;> omega)

/-- A number, forced. -/
noncomputable def mkInt (k : IntKind) (n : Nat) : Option AV := Nat.rec (motive := fun _ => IntKind → Option AV) (fun k => some (.int k (.ofNat 0))) (fun m _ k => some (.int k (.ofNat (Nat.succ m)))) n k
theorem mkInt_eq (k : IntKind) (n : Nat) : mkInt k n = some (.int k (.ofNat n)) := by cases n <;> rfl
noncomputable def mkNeg (k : IntKind) (n : Nat) : Option AV := Nat.rec (motive := fun _ => IntKind → Option AV) (fun k => some (.int k (.negSucc 0))) (fun m _ k => some (.int k (.negSucc (Nat.succ m)))) n k
theorem mkNeg_eq (k : IntKind) (n : Nat) : mkNeg k n = some (.int k (.negSucc n)) := by cases n <;> rfl
noncomputable def mkI (k : IntKind) (z : Int) : Option AV := Int.rec (motive := fun _ => IntKind → Option AV) (fun n k => mkInt k n) (fun n k => mkNeg k n) z k
theorem mkI_eq (k : IntKind) (z : Int) : mkI k z = some (.int k z) := by cases z; exact mkInt_eq ..; exact mkNeg_eq ..
noncomputable def mkB (b : Bool) : Option AV := Bool.rec (motive := fun _ => Option AV) (some (.bool false)) (some (.bool true)) b
theorem mkB_eq (b : Bool) : mkB b = some (.bool b) := by cases b <;> rfl
/-- A number, wrapped and forced. -/
noncomputable def mkW (k : IntKind) (n : Nat) : Option AV := Bool.rec (motive := fun _ => IntKind → Nat → Option AV) (fun k n => mkI k (k.wrap (.ofNat n))) (fun k n => mkInt k n) (Nat.ble (Nat.succ n) (kcap k)) k n
theorem mkW_eq (k : IntKind) (n : Nat) : mkW k n = some (wrapI k (.ofNat n)) := by
  unfold mkW
  cases h : Nat.ble (Nat.succ n) (kcap k) with
  | false => exact mkI_eq ..
  | true =>
    change mkInt k n = _
    rw [mkInt_eq, wrapI, wrap_fits k n (Nat.le_of_ble_eq_true h)]
/-- A number's value, forced. -/
noncomputable def frcI (k : IntKind) (z : Int) : Option AV := mkI k z
noncomputable def frc (x : Option AV) : Option AV := Option.rec (motive := fun _ => Option AV) none (fun v => AV.rec (motive_1 := fun _ => Option AV) (motive_2 := fun _ => Unit) (some .undef) (fun b => mkB b) (fun k n => mkI k n) (fun s => some (.str s)) (fun a => some (.ptr a)) (fun a l c => some (.slice a l c)) (fun r => some (.map r))
  (fun f a b _ _ => some (.func f a b)) (fun l => some (.yield l)) (some .nilFunc) (fun t v _ => some (.iface t v)) (some .nilIface) (fun c _ => some (.agg c)) (fun c _ => some (.tuple c)) () (fun _ _ _ _ => ()) v) x
theorem frc_eq (x : Option AV) : frc x = x := by
  cases x with
  | none => rfl
  | some v => cases v <;> first | rfl | exact mkB_eq _ | exact mkI_eq _ _

/-- Two numbers, both not negative; else the slow way. -/
noncomputable def onNN (f : IntKind → Nat → Nat → Option AV) (s : IntKind → Int → Int → Option AV) (k : IntKind) (a b : Int) : Option AV :=
  Int.rec (motive := fun _ => (IntKind → Nat → Nat → Option AV) → (IntKind → Int → Int → Option AV) → IntKind → Int → Option AV)
    (fun m f s k b => Int.rec (motive := fun _ => (IntKind → Nat → Nat → Option AV) → (IntKind → Int → Int → Option AV) → IntKind → Nat → Option AV) (fun n f _ k m => f k m n) (fun n _ s k m => frc (s k (.ofNat m) (.negSucc n))) b f s k m)
    (fun m _ s k b => frc (s k (.negSucc m) b)) a f s k b
theorem onNN_eq {f : IntKind → Nat → Nat → Option AV} {s : IntKind → Int → Int → Option AV} (h : ∀ k m n, f k m n = s k (.ofNat m) (.ofNat n)) (k : IntKind) (a b : Int) : onNN f s k a b = s k a b := by
  cases a with
  | negSucc m => exact frc_eq _
  | ofNat m =>
    cases b with
    | negSucc n => exact frc_eq _
    | ofNat n => exact h k m n
/-- Two numbers compared: where their signs differ it is known. -/
noncomputable def onCmp (f : IntKind → Nat → Nat → Option AV) (nb pb : Option AV) (s : IntKind → Int → Int → Option AV) (k : IntKind) (a b : Int) : Option AV :=
  Int.rec (motive := fun _ => (IntKind → Nat → Nat → Option AV) → Option AV → Option AV → (IntKind → Int → Int → Option AV) → IntKind → Int → Option AV)
    (fun m f _ pb _ k b => Int.rec (motive := fun _ => (IntKind → Nat → Nat → Option AV) → Option AV → IntKind → Nat → Option AV) (fun n f _ k m => f k m n) (fun _ _ pb _ _ => pb) b f pb k m)
    (fun m _ nb _ s k b => Int.rec (motive := fun _ => Option AV → (IntKind → Int → Int → Option AV) → IntKind → Nat → Option AV) (fun _ nb _ _ _ => nb) (fun n _ s k m => frc (s k (.negSucc m) (.negSucc n))) b nb s k m) a f nb pb s k b
theorem onCmp_eq {f : IntKind → Nat → Nat → Option AV} {nb pb : Option AV} {s : IntKind → Int → Int → Option AV} (h : ∀ k m n, f k m n = s k (.ofNat m) (.ofNat n)) (h1 : ∀ k m n, s k (.negSucc m) (.ofNat n) = nb) (h2 : ∀ k m n, s k (.ofNat m) (.negSucc n) = pb) (k : IntKind) (a b : Int) : onCmp f nb pb s k a b = s k a b := by
  cases a with
  | negSucc m => cases b with
    | negSucc n => exact frc_eq _
    | ofNat n => exact (h1 k m n).symm
  | ofNat m =>
    cases b with
    | negSucc n => exact (h2 k m n).symm
    | ofNat n => exact h k m n
noncomputable def fAdd (k : IntKind) (m n : Nat) : Option AV := mkW k (Nat.add m n)
noncomputable def fSub (k : IntKind) (m n : Nat) : Option AV := Bool.rec (motive := fun _ => IntKind → Nat → Nat → Option AV) (fun k m n => frc (intB .sub k (.ofNat m) (.ofNat n))) (fun k m n => mkW k (Nat.sub m n)) (Nat.ble n m) k m n
noncomputable def fMul (k : IntKind) (m n : Nat) : Option AV := mkW k (Nat.mul m n)
noncomputable def fQuo (k : IntKind) (m n : Nat) : Option AV := Nat.rec (motive := fun _ => IntKind → Nat → Option AV) (fun _ _ => none) (fun n _ k m => mkW k (Nat.div m (Nat.succ n))) n k m
noncomputable def fRem (k : IntKind) (m n : Nat) : Option AV := Nat.rec (motive := fun _ => IntKind → Nat → Option AV) (fun _ _ => none) (fun n _ k m => mkInt k (Nat.mod m (Nat.succ n))) n k m
noncomputable def fAnd (k : IntKind) (m n : Nat) : Option AV := mkW k (Nat.land (Nat.mod m (kpow k)) (Nat.mod n (kpow k)))
noncomputable def fOr (k : IntKind) (m n : Nat) : Option AV := mkW k (Nat.lor (Nat.mod m (kpow k)) (Nat.mod n (kpow k)))
noncomputable def fXor (k : IntKind) (m n : Nat) : Option AV := mkW k (Nat.xor (Nat.mod m (kpow k)) (Nat.mod n (kpow k)))
noncomputable def fEql (_ : IntKind) (m n : Nat) : Option AV := mkB (Nat.beq m n)
noncomputable def fNeq (_ : IntKind) (m n : Nat) : Option AV := Bool.rec (motive := fun _ => Option AV) (some (.bool true)) (some (.bool false)) (Nat.beq m n)
noncomputable def fLss (_ : IntKind) (m n : Nat) : Option AV := mkB (Nat.ble (Nat.succ m) n)
noncomputable def fLeq (_ : IntKind) (m n : Nat) : Option AV := mkB (Nat.ble m n)
noncomputable def fGtr (_ : IntKind) (m n : Nat) : Option AV := mkB (Nat.ble (Nat.succ n) m)
noncomputable def fGeq (_ : IntKind) (m n : Nat) : Option AV := mkB (Nat.ble n m)
theorem fAdd_eq (k : IntKind) (m n : Nat) : fAdd k m n = intB .add k (.ofNat m) (.ofNat n) := mkW_eq ..
theorem fSub_eq (k : IntKind) (m n : Nat) : fSub k m n = intB .sub k (.ofNat m) (.ofNat n) := by
  unfold fSub
  cases h : Nat.ble n m with
  | false => exact frc_eq _
  | true =>
    change mkW k (m - n) = _
    have := Nat.le_of_ble_eq_true h
    rw [mkW_eq, intB]
    congr 2
    simp only [Int.ofNat_eq_natCast]; omega
theorem fMul_eq (k : IntKind) (m n : Nat) : fMul k m n = intB .mul k (.ofNat m) (.ofNat n) := mkW_eq ..
theorem fQuo_eq (k : IntKind) (m n : Nat) : fQuo k m n = intB .quo k (.ofNat m) (.ofNat n) := by
  cases n with
  | zero => rfl
  | succ n =>
    change mkW k (m / (n + 1)) = _
    rw [mkW_eq, intB, if_neg (by simp; omega)]
    rfl
theorem fRem_eq (k : IntKind) (m n : Nat) : fRem k m n = intB .rem k (.ofNat m) (.ofNat n) := by
  cases n with
  | zero => rfl
  | succ n =>
    change mkInt k (m % (n + 1)) = _
    rw [mkInt_eq, intB, if_neg (by simp; omega)]
    rfl
theorem ofInt_ofNat (w m : Nat) : BitVec.ofInt w (.ofNat m) = BitVec.ofNat w m := by
  rw [Int.ofNat_eq_natCast, BitVec.ofInt_natCast]
theorem fAnd_eq (k : IntKind) (m n : Nat) : fAnd k m n = intB .and k (.ofNat m) (.ofNat n) := by
  unfold fAnd
  rw [mkW_eq, intB, bitsI]
  simp only [ofInt_ofNat, kpow_eq, BitVec.toNat_and, BitVec.toNat_ofNat]
  rfl
theorem fOr_eq (k : IntKind) (m n : Nat) : fOr k m n = intB .or k (.ofNat m) (.ofNat n) := by
  unfold fOr
  rw [mkW_eq, intB, bitsI]
  simp only [ofInt_ofNat, kpow_eq, BitVec.toNat_or, BitVec.toNat_ofNat]
  rfl
theorem fXor_eq (k : IntKind) (m n : Nat) : fXor k m n = intB .xor k (.ofNat m) (.ofNat n) := by
  unfold fXor
  rw [mkW_eq, intB, bitsI]
  simp only [ofInt_ofNat, kpow_eq, BitVec.toNat_xor, BitVec.toNat_ofNat]
  rfl
theorem beq_dec (m n : Nat) : Nat.beq m n = decide (m = n) := by
  by_cases h : m = n
  · subst h; simp
  · rw [decide_eq_false h]
    cases h' : Nat.beq m n with
    | false => rfl
    | true => exact absurd (Nat.eq_of_beq_eq_true h') h
theorem ble_dec (m n : Nat) : Nat.ble m n = decide (m ≤ n) := by
  by_cases h : m ≤ n
  · rw [decide_eq_true h]; exact Nat.ble_eq_true_of_le h
  · rw [decide_eq_false h]
    cases h' : Nat.ble m n with
    | false => rfl
    | true => exact absurd (Nat.le_of_ble_eq_true h') h
theorem fEql_eq (k : IntKind) (m n : Nat) : fEql k m n = intB .eql k (.ofNat m) (.ofNat n) := by
  unfold fEql
  rw [mkB_eq, intB, beq_dec]
  congr 2
  rw [eq_comm, Bool.eq_iff_iff]; simp; omega
theorem fNeq_eq (k : IntKind) (m n : Nat) : fNeq k m n = intB .neq k (.ofNat m) (.ofNat n) := by
  have h : fNeq k m n = some (.bool (!Nat.beq m n)) := by unfold fNeq; cases Nat.beq m n <;> rfl
  rw [h, intB, beq_dec]
  congr 2
  rw [eq_comm, Bool.eq_iff_iff]; simp; omega
theorem fLss_eq (k : IntKind) (m n : Nat) : fLss k m n = intB .lss k (.ofNat m) (.ofNat n) := by
  unfold fLss
  rw [mkB_eq, intB, ble_dec]
  congr 2
  simp [Nat.succ_le_iff]
theorem fLeq_eq (k : IntKind) (m n : Nat) : fLeq k m n = intB .leq k (.ofNat m) (.ofNat n) := by
  unfold fLeq
  rw [mkB_eq, intB, ble_dec]
  congr 2
  simp
theorem fGtr_eq (k : IntKind) (m n : Nat) : fGtr k m n = intB .gtr k (.ofNat m) (.ofNat n) := by
  unfold fGtr
  rw [mkB_eq, intB, ble_dec]
  congr 2
  simp [Nat.succ_le_iff]
theorem fGeq_eq (k : IntKind) (m n : Nat) : fGeq k m n = intB .geq k (.ofNat m) (.ofNat n) := by
  unfold fGeq
  rw [mkB_eq, intB, ble_dec]
  congr 2
  simp
/-- The fast way of an operation on numbers. -/
structure KI where run : IntKind → Int → Int → Option AV
noncomputable def kInt (op : BinOp) : KI := BinOp.rec (motive := fun _ => KI) ⟨onNN fAdd (intB .add)⟩ ⟨onNN fSub (intB .sub)⟩ ⟨onNN fMul (intB .mul)⟩ ⟨onNN fQuo (intB .quo)⟩ ⟨onNN fRem (intB .rem)⟩ ⟨onNN fAnd (intB .and)⟩ ⟨onNN fOr (intB .or)⟩ ⟨onNN fXor (intB .xor)⟩
  ⟨intB .shl⟩ ⟨intB .shr⟩ ⟨intB .andNot⟩ ⟨onCmp fEql (some (.bool false)) (some (.bool false)) (intB .eql)⟩ ⟨onCmp fNeq (some (.bool true)) (some (.bool true)) (intB .neq)⟩ ⟨onCmp fLss (some (.bool true)) (some (.bool false)) (intB .lss)⟩ ⟨onCmp fLeq (some (.bool true)) (some (.bool false)) (intB .leq)⟩ ⟨onCmp fGtr (some (.bool false)) (some (.bool true)) (intB .gtr)⟩ ⟨onCmp fGeq (some (.bool false)) (some (.bool true)) (intB .geq)⟩ op
theorem kInt_eq (op : BinOp) (k : IntKind) (a b : Int) : (kInt op).run k a b = intB op k a b := by
  cases op
  case add => exact onNN_eq fAdd_eq k a b
  case sub => exact onNN_eq fSub_eq k a b
  case mul => exact onNN_eq fMul_eq k a b
  case quo => exact onNN_eq fQuo_eq k a b
  case rem => exact onNN_eq fRem_eq k a b
  case and => exact onNN_eq fAnd_eq k a b
  case or => exact onNN_eq fOr_eq k a b
  case xor => exact onNN_eq fXor_eq k a b
  case eql => exact onCmp_eq fEql_eq (fun k m n => by simp [intB]) (fun k m n => by simp [intB]) k a b
  case neq => exact onCmp_eq fNeq_eq (fun k m n => by simp [intB]) (fun k m n => by simp [intB]) k a b
  case lss => exact onCmp_eq fLss_eq (fun k m n => by simp only [intB, Int.negSucc_eq, Int.ofNat_eq_natCast, Option.some.injEq, AV.bool.injEq, decide_eq_true_eq]; omega) (fun k m n => by simp only [intB, Int.negSucc_eq, Int.ofNat_eq_natCast, Option.some.injEq, AV.bool.injEq, decide_eq_false_iff_not]; omega) k a b
  case leq => exact onCmp_eq fLeq_eq (fun k m n => by simp only [intB, Int.negSucc_eq, Int.ofNat_eq_natCast, Option.some.injEq, AV.bool.injEq, decide_eq_true_eq]; omega) (fun k m n => by simp only [intB, Int.negSucc_eq, Int.ofNat_eq_natCast, Option.some.injEq, AV.bool.injEq, decide_eq_false_iff_not]; omega) k a b
  case gtr => exact onCmp_eq fGtr_eq (fun k m n => by simp only [intB, Int.negSucc_eq, Int.ofNat_eq_natCast, Option.some.injEq, AV.bool.injEq, decide_eq_false_iff_not]; omega) (fun k m n => by simp only [intB, Int.negSucc_eq, Int.ofNat_eq_natCast, Option.some.injEq, AV.bool.injEq, decide_eq_true_eq]; omega) k a b
  case geq => exact onCmp_eq fGeq_eq (fun k m n => by simp only [intB, Int.negSucc_eq, Int.ofNat_eq_natCast, Option.some.injEq, AV.bool.injEq, decide_eq_false_iff_not]; omega) (fun k m n => by simp only [intB, Int.negSucc_eq, Int.ofNat_eq_natCast, Option.some.injEq, AV.bool.injEq, decide_eq_true_eq]; omega) k a b
  all_goals rfl
end Go.Av

/- For the kernel: values looked at, operands, memory. -/
namespace Go.Av

/-! ### Values looked at -/
noncomputable def vI (v : AV) : Option (IntKind × Int) := AV.rec (motive_1 := fun _ => Option (IntKind × Int)) (motive_2 := fun _ => Unit) none (fun _ => none) (fun k n => some (k, n)) (fun _ => none) (fun _ => none) (fun _ _ _ => none) (fun _ => none) (fun _ _ _ _ _ => none) (fun _ => none) none (fun _ _ _ => none) none (fun _ _ => none) (fun _ _ => none) () (fun _ _ _ _ => ()) v
noncomputable def vP (v : AV) : Option (Nat × Nat) := AV.rec (motive_1 := fun _ => Option (Nat × Nat)) (motive_2 := fun _ => Unit) none (fun _ => none) (fun _ _ => none) (fun _ => none) (fun a => a) (fun _ _ _ => none) (fun _ => none) (fun _ _ _ _ _ => none) (fun _ => none) none (fun _ _ _ => none) none (fun _ _ => none) (fun _ _ => none) () (fun _ _ _ _ => ()) v
noncomputable def vB (v : AV) : Option Bool := AV.rec (motive_1 := fun _ => Option Bool) (motive_2 := fun _ => Unit) none (fun b => some b) (fun _ _ => none) (fun _ => none) (fun _ => none) (fun _ _ _ => none) (fun _ => none) (fun _ _ _ _ _ => none) (fun _ => none) none (fun _ _ _ => none) none (fun _ _ => none) (fun _ _ => none) () (fun _ _ _ _ => ()) v
noncomputable def vT (v : AV) : Option (List AV) := AV.rec (motive_1 := fun _ => Option (List AV)) (motive_2 := fun _ => Unit) none (fun _ => none) (fun _ _ => none) (fun _ => none) (fun _ => none) (fun _ _ _ => none) (fun _ => none) (fun _ _ _ _ _ => none) (fun _ => none) none (fun _ _ _ => none) none (fun _ _ => none) (fun c _ => some c) () (fun _ _ _ _ => ()) v
/-- A slice: where, how long. -/
noncomputable def vS (v : AV) : Option (Option (Nat × Nat) × Nat) := AV.rec (motive_1 := fun _ => Option (Option (Nat × Nat) × Nat)) (motive_2 := fun _ => Unit) none (fun _ => none) (fun _ _ => none) (fun _ => none) (fun _ => none) (fun a l _ => some (a, l)) (fun _ => none) (fun _ _ _ _ _ => none) (fun _ => none) none (fun _ _ _ => none) none (fun _ _ => none) (fun _ _ => none) () (fun _ _ _ _ => ()) v
/-- What lies in one cell. -/
noncomputable def v1 (v : AV) : Bool := AV.rec (motive_1 := fun _ => Bool) (motive_2 := fun _ => Unit) false (fun _ => true) (fun _ _ => true) (fun _ => true) (fun _ => true) (fun _ _ _ => true) (fun _ => true) (fun _ _ _ _ _ => true) (fun _ => true) true (fun _ _ _ => true) true (fun _ _ => false) (fun _ _ => false) () (fun _ _ _ _ => ()) v
theorem v1_eq (v : AV) : v1 v = v.one := by cases v <;> rfl
theorem v1_cells {v : AV} (h : v1 v = true) : v.cells = [v] := by cases v <;> first | rfl | cases h

/-! ### Operands -/
structure KE where run : T AV → Option AV
noncomputable def kev (x : Operand) : KE :=
  match x with
  | .tmp t => ⟨(T.gOf t t).run⟩
  | .const c => ⟨fun _ => ofV 9 c⟩
  | .global _ => ⟨fun _ => none⟩
  | .func f => ⟨fun _ => some (.func f [] [])⟩
theorem kev_eq (x : Operand) (tm : T AV) : (kev x).run tm = ev tm x := by
  cases x with
  | tmp t => exact T.gOf_eq t t (Nat.le_refl _) tm
  | _ => rfl
structure KEs where run : T AV → Option (List AV)
noncomputable def consO (a : Option AV) (r : Option (List AV)) : Option (List AV) :=
  Option.rec (motive := fun _ => Option (List AV) → Option (List AV)) (fun _ => none) (fun v r => Option.rec (motive := fun _ => AV → Option (List AV)) (fun _ => none) (fun vs v => some (v :: vs)) r v) a r
theorem consO_eq (a : Option AV) (r : Option (List AV)) : consO a r = (do let v ← a; let vs ← r; some (v :: vs)) := by cases a <;> cases r <;> rfl
noncomputable def kevs : List Operand → KEs
  | [] => ⟨fun _ => some []⟩
  | x :: xs => ⟨fun tm => consO ((kev x).run tm) ((kevs xs).run tm)⟩
theorem kevs_eq : ∀ (xs : List Operand) (tm : T AV), (kevs xs).run tm = evs tm xs
  | [], _ => rfl
  | x :: xs, tm => by
    change consO ((kev x).run tm) ((kevs xs).run tm) = _
    rw [consO_eq, kev_eq, kevs_eq xs tm]; rfl

/-! ### What an operation leaves -/
noncomputable def kval (x : Option AV) (st : St) : Option OR := Option.rec (motive := fun _ => St → Option OR) (fun _ => none) (fun v st => some (.val v st)) x st
theorem kval_eq (x : Option AV) (st : St) : kval x st = valR st x := by cases x <;> rfl
/-- A new block, forced. -/
noncomputable def kNew (h : Heap) (x : Blk) : Heap :=
  Heap.rec (motive := fun _ => Blk → Heap) (fun b n x => T.rec (motive := fun _ => Nat → Heap) (fun n => ⟨.leaf, Nat.succ n⟩)
    (fun l v r _ _ n => Nat.rec (motive := fun _ => T Blk → Option Blk → T Blk → Heap) (fun l v r => ⟨.node l v r, 1⟩) (fun m _ l v r => ⟨.node l v r, Nat.succ (Nat.succ m)⟩) n l v r) (T.rset b n x) n) h x
theorem kNew_eq (h : Heap) (x : Blk) : kNew h x = newBlk h x := by
  obtain ⟨b, n⟩ := h
  change T.rec (motive := fun _ => Nat → Heap) (fun n => ⟨.leaf, Nat.succ n⟩) (fun l v r _ _ n => Nat.rec (motive := fun _ => T Blk → Option Blk → T Blk → Heap) (fun l v r => ⟨.node l v r, 1⟩) (fun m _ l v r => ⟨.node l v r, Nat.succ (Nat.succ m)⟩) n l v r) (T.rset b n x) n = _
  rw [T.rset_eq]
  unfold newBlk
  simp only
  cases b.set n x with
  | leaf => rfl
  | node l v r => cases n <;> rfl
/-- A block turned, forced. -/
noncomputable def kTurn (h : Heap) (i : Nat) (x : Blk) : Heap := Heap.rec (motive := fun _ => Nat → Blk → Heap) (fun b n i x => T.rec (motive := fun _ => Nat → Heap) (fun n => ⟨.leaf, n⟩) (fun l v r _ _ n => ⟨.node l v r, n⟩) (T.rset b i x) n) h i x
theorem kTurn_eq (h : Heap) (i : Nat) (x : Blk) : kTurn h i x = ⟨h.b.set i x, h.next⟩ := by
  obtain ⟨b, n⟩ := h
  change T.rec (motive := fun _ => Nat → Heap) (fun n => ⟨.leaf, n⟩) (fun l v r _ _ n => ⟨.node l v r, n⟩) (T.rset b i x) n = _
  rw [T.rset_eq]
  cases b.set i x <;> rfl
/-- The state with another heap, forced. -/
noncomputable def kAt (v : AV) (st : St) (h : Heap) : Option OR :=
  Heap.rec (motive := fun _ => AV → St → Option OR) (fun b n v st => St.rec (motive := fun _ => AV → T Blk → Nat → Option OR) (fun tm df up _ v b n => some (.val v ⟨tm, df, up, ⟨b, n⟩⟩)) st v b n) h v st
theorem kAt_eq (v : AV) (st : St) (h : Heap) : kAt v st h = some (.val v (st.at h)) := by cases h; cases st; rfl

/-! ### Memory -/
noncomputable def blkGet (x : Option Blk) (o : Nat) : Option AV :=
  Option.rec (motive := fun _ => Nat → Option AV) (fun _ => none) (fun x o => Blk.rec (motive := fun _ => Nat → Option AV) (fun c _ _ _ o => T.rget c o) (fun _ _ _ => none) (fun _ _ _ => none) (fun _ _ _ _ _ _ _ _ _ _ => none) (fun _ => none) (fun _ => none) x o) x o
noncomputable def rgetN (c : T AV) (o n : Nat) : Option (List AV) := Nat.rec (motive := fun _ => T AV → Nat → Option (List AV)) (fun _ _ => some []) (fun _ ih c o => consO (T.rget c o) (ih c (Nat.succ o))) n c o
theorem rgetN_eq (c : T AV) (o n : Nat) : rgetN c o n = getN c o n := by
  induction n generalizing o with
  | zero => rfl
  | succ n ih =>
    change consO (T.rget c o) (rgetN c (o + 1) n) = _
    rw [consO_eq, ih, T.rget_eq]; rfl
noncomputable def blkGetN (x : Option Blk) (o n : Nat) : Option (List AV) :=
  Option.rec (motive := fun _ => Nat → Nat → Option (List AV)) (fun _ _ => none) (fun x o n => Blk.rec (motive := fun _ => Nat → Nat → Option (List AV)) (fun c _ _ _ o n => rgetN c o n) (fun _ _ _ _ => none) (fun _ _ _ _ => none) (fun _ _ _ _ _ _ _ _ _ _ _ => none) (fun _ _ => none) (fun _ _ => none) x o n) x o n
noncomputable def aggO (x : Option (List AV)) : Option AV := Option.rec (motive := fun _ => Option AV) none (fun l => some (.agg l)) x
structure KL where run : Heap → Nat → Nat → Option AV
noncomputable def kloadVar (E : Env) (t : TypeId) : KL :=
  match E.t t with
  | none => ⟨fun _ _ _ => none⟩
  | some ty => if ty.agg then ⟨fun h b o => aggO (blkGetN (T.rget h.b b) o ty.size)⟩ else ⟨fun h b o => blkGet (T.rget h.b b) o⟩
theorem kloadVar_eq (E : Env) (t : TypeId) (h : Heap) (b o : Nat) : (kloadVar E t).run h b o = loadVar E h t b o := by
  unfold kloadVar loadVar
  cases E.t t with
  | none => rfl
  | some ty =>
    simp only [Option.bind_eq_bind, Option.bind_some]
    split
    · rename_i hagg
      change aggO (blkGetN (T.rget h.b b) o ty.size) = _
      rw [T.rget_eq]
      cases h.b.get b with
      | none => rfl
      | some x => cases x with
        | cells c n e ro =>
          change aggO (rgetN c o ty.size) = _
          rw [rgetN_eq, Option.bind_some]
          simp only
          cases getN c o ty.size <;> rfl
        | _ => rfl
    · rename_i hagg
      change blkGet (T.rget h.b b) o = _
      rw [T.rget_eq]
      cases h.b.get b with
      | none => rfl
      | some x => cases x with
        | cells c n e ro =>
          change T.rget c o = _
          rw [T.rget_eq]
          simp
        | _ => rfl

/-- One cell laid, forced. -/
noncomputable def kset1 (h : Heap) (b o : Nat) (v : AV) : Option Heap :=
  Option.rec (motive := fun _ => Heap → Nat → Nat → AV → Option Heap) (fun _ _ _ _ => none)
    (fun x h b o v => Blk.rec (motive := fun _ => Heap → Nat → Nat → AV → Option Heap)
      (fun c n e ro h b o v => Bool.rec (motive := fun _ => T AV → Nat → TypeId → Heap → Nat → Nat → AV → Option Heap)
        (fun c n e h b o v => Bool.rec (motive := fun _ => T AV → Nat → TypeId → Heap → Nat → Nat → AV → Option Heap) (fun _ _ _ _ _ _ _ => none)
          (fun c n e h b o v => T.rec (motive := fun _ => Nat → TypeId → Heap → Nat → Option Heap) (fun n e h b => some (kTurn h b (.cells .leaf n e false))) (fun l w r _ _ n e h b => some (kTurn h b (.cells (.node l w r) n e false))) (T.rset c o v) n e h b)
          (Nat.ble (Nat.succ o) n) c n e h b o v)
        (fun _ _ _ _ _ _ _ => none) ro c n e h b o v)
      (fun _ _ _ _ _ _ => none) (fun _ _ _ _ _ _ => none) (fun _ _ _ _ _ _ _ _ _ _ _ _ _ => none) (fun _ _ _ _ => none) (fun _ _ _ _ => none) x h b o v) (T.rget h.b b) h b o v
theorem kset1_eq (h : Heap) (b o : Nat) (v : AV) (hv : v.one = true) : kset1 h b o v = storeCells h b o [v] := by
  unfold kset1 storeCells
  rw [T.rget_eq]
  cases h.b.get b with
  | none => rfl
  | some x =>
    cases x with
    | cells c n e ro =>
      cases ro with
      | true => rfl
      | false =>
        simp only [Option.bind_eq_bind, Option.bind_some, List.length_singleton, List.all_cons, List.all_nil, hv, Bool.and_self, and_true, setN]
        rw [ble_dec]
        by_cases hle : o.succ ≤ n
        · rw [decide_eq_true hle, if_pos hle]
          change T.rec (motive := fun _ => Nat → TypeId → Heap → Nat → Option Heap) (fun n e h b => some (kTurn h b (.cells .leaf n e false))) (fun l w r _ _ n e h b => some (kTurn h b (.cells (.node l w r) n e false))) (c.rset o v) n e h b = _
          rw [T.rset_eq]
          cases c.set o v <;> exact congrArg some (kTurn_eq ..)
        · rw [decide_eq_false hle, if_neg hle]
    | _ => rfl
structure KS where run : Heap → Nat → Nat → AV → Option Heap
noncomputable def kstoreVar (E : Env) (t : TypeId) : KS :=
  match E.t t with
  | none => ⟨fun _ _ _ _ => none⟩
  | some ty => if ty.size = 1 then ⟨fun h b o v => Bool.rec (motive := fun _ => Heap → Nat → Nat → AV → Option Heap) (fun h b o v => storeVar E h t b o v) (fun h b o v => kset1 h b o v) (v1 v) h b o v⟩ else ⟨fun h b o v => storeVar E h t b o v⟩
theorem kstoreVar_eq (E : Env) (t : TypeId) (h : Heap) (b o : Nat) (v : AV) : (kstoreVar E t).run h b o v = storeVar E h t b o v := by
  unfold kstoreVar
  cases hE : E.t t with
  | none => simp only [storeVar, hE]; rfl
  | some ty =>
    simp only
    split
    · rename_i hs
      change Bool.rec (motive := fun _ => Heap → Nat → Nat → AV → Option Heap) (fun h b o v => storeVar E h t b o v) (fun h b o v => kset1 h b o v) (v1 v) h b o v = _
      cases hv : v1 v with
      | false => rfl
      | true =>
        change kset1 h b o v = _
        rw [kset1_eq _ _ _ _ (by rw [← v1_eq]; exact hv)]
        simp only [storeVar, hE, Option.bind_eq_bind, Option.bind_some, v1_cells hv, List.length_singleton, hs, if_true]
    · rfl
end Go.Av

/- For the kernel: the operations. -/
namespace Go.Av

structure KO where run : Rec → Cx → St → Option OR

noncomputable def kpick (c : Option AV) (a b : KE) (st : St) : Option OR :=
  Option.rec (motive := fun _ => KE → KE → St → Option OR) (fun _ _ _ => none) (fun v a b st => Option.rec (motive := fun _ => KE → KE → St → Option OR) (fun _ _ _ => none) (fun t a b st => Bool.rec (motive := fun _ => KE → KE → St → Option OR) (fun _ b st => kval (b.run st.tm) st) (fun a _ st => kval (a.run st.tm) st) t a b st) (vB v) a b st) c a b st
theorem kpick_eq (st : St) (c a b : Operand) : kpick (ev st.tm c) (kev a) (kev b) st = oPick st c a b := by
  unfold oPick
  cases ev st.tm c with
  | none => rfl
  | some v =>
    cases v with
    | bool t =>
      cases t with
      | true => exact (kval_eq _ _).trans (by rw [kev_eq]; rfl)
      | false => exact (kval_eq _ _).trans (by rw [kev_eq]; rfl)
    | _ => rfl

/-- A row laid. -/
noncomputable def kofL (l : List AV) (i : Nat) (t : T AV) : T AV := List.rec (motive := fun _ => Nat → T AV → T AV) (fun _ t => t)
  (fun x _ ih i t => T.rec (motive := fun _ => (Nat → T AV → T AV) → Nat → T AV) (fun ih i => ih (Nat.succ i) .leaf) (fun l v r _ _ ih i => ih (Nat.succ i) (.node l v r)) (T.rset t i x) ih i) l i t
theorem kofL_eq (l : List AV) (i : Nat) (t : T AV) : kofL l i t = T.ofL l i t := by
  induction l generalizing i t with
  | nil => rfl
  | cons x l ih =>
    change T.rec (motive := fun _ => (Nat → T AV → T AV) → Nat → T AV) (fun ih i => ih (Nat.succ i) .leaf) (fun l v r _ _ ih i => ih (Nat.succ i) (.node l v r)) (T.rset t i x) (kofL l) i = _
    rw [T.rset_eq, T.ofL, ← ih]
    cases t.set i x <;> rfl
noncomputable def kall1 (l : List AV) : Bool := List.rec (motive := fun _ => Bool) true (fun x _ ih => Bool.rec (motive := fun _ => Bool → Bool) (fun _ => false) (fun b => b) (v1 x) ih) l
theorem kall1_eq (l : List AV) : kall1 l = l.all AV.one := by
  induction l with
  | nil => rfl
  | cons x l ih =>
    change Bool.rec (motive := fun _ => Bool → Bool) (fun _ => false) (fun b => b) (v1 x) (kall1 l) = _
    rw [List.all_cons, ih, v1_eq]
    cases x.one <;> rfl
noncomputable def klen {α : Type} (l : List α) : Nat := List.rec (motive := fun _ => Nat) 0 (fun _ _ ih => Nat.succ ih) l
theorem klen_eq {α : Type} (l : List α) : klen l = l.length := by
  induction l with
  | nil => rfl
  | cons x l ih => exact congrArg Nat.succ ih
/-- A new row of cells, and where it is. -/
noncomputable def krow (e : TypeId) (cs : List AV) (v : Nat → AV) (st : St) : Option OR :=
  Bool.rec (motive := fun _ => TypeId → List AV → (Nat → AV) → St → Option OR) (fun _ _ _ _ => none)
    (fun e cs v st => T.rec (motive := fun _ => TypeId → List AV → (Nat → AV) → St → Option OR) (fun e cs v st => kAt (v st.hp.next) st (kNew st.hp (.cells .leaf (klen cs) e false)))
      (fun l w r _ _ e cs v st => kAt (v st.hp.next) st (kNew st.hp (.cells (.node l w r) (klen cs) e false))) (kofL cs 0 .leaf) e cs v st) (kall1 cs) e cs v st
theorem krow_eq (e : TypeId) (cs : List AV) (v : Nat → AV) (st : St) : krow e cs v st = laid st (newRow st.hp e cs) (v st.hp.next) := by
  unfold krow newRow
  rw [kall1_eq]
  cases cs.all AV.one with
  | false => rfl
  | true =>
    change T.rec (motive := fun _ => TypeId → List AV → (Nat → AV) → St → Option OR) (fun e cs v st => kAt (v st.hp.next) st (kNew st.hp (.cells .leaf (klen cs) e false)))
      (fun l w r _ _ e cs v st => kAt (v st.hp.next) st (kNew st.hp (.cells (.node l w r) (klen cs) e false))) (kofL cs 0 .leaf) e cs v st = _
    rw [kofL_eq, if_pos rfl]
    cases h : T.ofL cs 0 .leaf with
    | leaf => exact (kAt_eq ..).trans (by rw [kNew_eq, klen_eq]; rfl)
    | node l w r => exact (kAt_eq ..).trans (by rw [kNew_eq, klen_eq]; rfl)
noncomputable def kcells (v : AV) : List AV := AV.rec (motive_1 := fun _ => List AV) (motive_2 := fun _ => Unit) [.undef] (fun b => [.bool b]) (fun k n => [.int k n]) (fun s => [.str s]) (fun a => [.ptr a]) (fun a l c => [.slice a l c]) (fun r => [.map r])
  (fun f a b _ _ => [.func f a b]) (fun l => [.yield l]) [.nilFunc] (fun t v _ => [.iface t v]) [.nilIface] (fun c _ => c) (fun c _ => [.tuple c]) () (fun _ _ _ _ => ()) v
theorem kcells_eq (v : AV) : kcells v = v.cells := by cases v <;> rfl
noncomputable def kbox (e : TypeId) (x : Option AV) (st : St) : Option OR := Option.rec (motive := fun _ => TypeId → St → Option OR) (fun _ _ => none) (fun v e st => krow e (kcells v) (fun n => .ptr (some (n, 0))) st) x e st

/-- With a place. -/
noncomputable def onP (x : Option AV) (f : Nat → Nat → St → Option OR) (st : St) : Option OR :=
  Option.rec (motive := fun _ => (Nat → Nat → St → Option OR) → St → Option OR) (fun _ _ => none) (fun v f st => Option.rec (motive := fun _ => (Nat → Nat → St → Option OR) → St → Option OR) (fun _ _ => none) (fun p f st => Prod.rec (motive := fun _ => (Nat → Nat → St → Option OR) → St → Option OR) (fun b o f st => f b o st) p f st) (vP v) f st) x f st
theorem onP_eq (x : Option AV) (f : Nat → Nat → St → Option OR) (st : St) : onP x f st = (do
    let .ptr (some (b, o)) ← x | none
    f b o st) := by
  cases x with
  | none => rfl
  | some v => cases v with
    | ptr a => cases a <;> rfl
    | _ => rfl
noncomputable def on1 (x : Option AV) (f : AV → St → Option OR) (st : St) : Option OR := Option.rec (motive := fun _ => (AV → St → Option OR) → St → Option OR) (fun _ _ => none) (fun v f st => f v st) x f st
theorem on1_eq (x : Option AV) (f : AV → St → Option OR) (st : St) : on1 x f st = (do let v ← x; f v st) := by cases x <;> rfl
noncomputable def on2 (x y : Option AV) (f : AV → AV → St → Option OR) (st : St) : Option OR := Option.rec (motive := fun _ => Option AV → (AV → AV → St → Option OR) → St → Option OR) (fun _ _ _ => none)
  (fun v y f st => Option.rec (motive := fun _ => AV → (AV → AV → St → Option OR) → St → Option OR) (fun _ _ _ => none) (fun w v f st => f v w st) y v f st) x y f st
theorem on2_eq (x y : Option AV) (f : AV → AV → St → Option OR) (st : St) : on2 x y f st = (do let v ← x; let w ← y; f v w st) := by cases x <;> cases y <;> rfl
noncomputable def kput (v : AV) (h : Option Heap) (st : St) : Option OR := Option.rec (motive := fun _ => AV → St → Option OR) (fun _ _ => none) (fun h v st => kAt v st h) h v st
theorem kput_eq (v : AV) (h : Option Heap) (st : St) : kput v h st = laid st h v := by cases h with | none => rfl | some h => exact kAt_eq ..

/-- Two numbers of one kind; else the slow way. -/
noncomputable def kbin (f : KI) (s : AV → AV → Option AV) (a b : AV) (st : St) : Option OR :=
  Option.rec (motive := fun _ => KI → (AV → AV → Option AV) → AV → AV → St → Option OR) (fun _ s a b st => kval (frc (s a b)) st)
    (fun p f s a b st => Option.rec (motive := fun _ => IntKind × Int → KI → (AV → AV → Option AV) → AV → AV → St → Option OR) (fun _ _ s a b st => kval (frc (s a b)) st)
      (fun q p f s a b st => Prod.rec (motive := fun _ => IntKind × Int → KI → (AV → AV → Option AV) → AV → AV → St → Option OR) (fun k m q f s a b st => Prod.rec (motive := fun _ => IntKind → Int → KI → (AV → AV → Option AV) → AV → AV → St → Option OR)
        (fun j n k m f s a b st => Bool.rec (motive := fun _ => KI → IntKind → Int → Int → (AV → AV → Option AV) → AV → AV → St → Option OR) (fun _ _ _ _ s a b st => kval (frc (s a b)) st) (fun f k m n _ _ _ st => kval (f.run k m n) st) (Nat.beq (kix k) (kix j)) f k m n s a b st) q k m f s a b st) p q f s a b st) (vI b) p f s a b st) (vI a) f s a b st
theorem kbin_eq (f : KI) (s : AV → AV → Option AV) (a b : AV) (st : St) (h : ∀ k m n, a = .int k m → b = .int k n → f.run k m n = s a b) : kbin f s a b st = valR st (s a b) := by
  have slow : kval (frc (s a b)) st = valR st (s a b) := by rw [kval_eq, frc_eq]
  cases a with
  | int k m =>
    cases b with
    | int j n =>
      change Bool.rec (motive := fun _ => KI → IntKind → Int → Int → (AV → AV → Option AV) → AV → AV → St → Option OR) (fun _ _ _ _ s a b st => kval (frc (s a b)) st) (fun f k m n _ _ _ st => kval (f.run k m n) st) (Nat.beq (kix k) (kix j)) f k m n s (.int k m) (.int j n) st = _
      rw [kix_eq]
      by_cases e : k = j
      · subst e
        rw [decide_eq_true rfl, ← h k m n rfl rfl]
        exact kval_eq ..
      · rw [decide_eq_false e]; exact slow
    | _ => exact slow
  | _ => exact slow
theorem binV_int {E : Env} {op : BinOp} (h1 : op ≠ .shl) (h2 : op ≠ .shr) (t : TypeId) (x y : Operand) (k : IntKind) (m n : Int) : binV E op t x y (.int k m) (.int k n) = intB op k m n := by
  cases op <;> first | exact absurd rfl h1 | exact absurd rfl h2 | (simp only [binV, if_true])
/-- Shifts. -/
noncomputable def onSh (f : IntKind → Nat → Nat → Option AV) (s : AV → AV → Option AV) (a b : AV) (st : St) : Option OR :=
  Option.rec (motive := fun _ => (IntKind → Nat → Nat → Option AV) → (AV → AV → Option AV) → AV → AV → St → Option OR) (fun _ s a b st => kval (frc (s a b)) st)
    (fun p f s a b st => Option.rec (motive := fun _ => IntKind × Int → (IntKind → Nat → Nat → Option AV) → (AV → AV → Option AV) → AV → AV → St → Option OR) (fun _ _ s a b st => kval (frc (s a b)) st)
      (fun q p f s a b st => Prod.rec (motive := fun _ => IntKind × Int → (IntKind → Nat → Nat → Option AV) → (AV → AV → Option AV) → AV → AV → St → Option OR)
        (fun k m q f s a b st => Int.rec (motive := fun _ => IntKind → IntKind × Int → (IntKind → Nat → Nat → Option AV) → (AV → AV → Option AV) → AV → AV → St → Option OR)
          (fun m k q f s a b st => Prod.rec (motive := fun _ => IntKind → Nat → (IntKind → Nat → Nat → Option AV) → (AV → AV → Option AV) → AV → AV → St → Option OR)
            (fun _ n k m f s a b st => Int.rec (motive := fun _ => IntKind → Nat → (IntKind → Nat → Nat → Option AV) → (AV → AV → Option AV) → AV → AV → St → Option OR) (fun n k m f _ _ _ st => kval (f k m n) st) (fun _ _ _ _ s a b st => kval (frc (s a b)) st) n k m f s a b st) q k m f s a b st)
          (fun _ _ _ _ s a b st => kval (frc (s a b)) st) m k q f s a b st) p q f s a b st) (vI b) p f s a b st) (vI a) f s a b st
theorem onSh_eq (f : IntKind → Nat → Nat → Option AV) (s : AV → AV → Option AV) (a b : AV) (st : St) (h : ∀ k j m n, a = .int k (.ofNat m) → b = .int j (.ofNat n) → f k m n = s a b) : onSh f s a b st = valR st (s a b) := by
  have slow : kval (frc (s a b)) st = valR st (s a b) := by rw [kval_eq, frc_eq]
  cases a with
  | int k m =>
    cases b with
    | int j n =>
      cases m with
      | ofNat m =>
        cases n with
        | ofNat n => rw [← h k j m n rfl rfl]; exact kval_eq ..
        | negSucc n => exact slow
      | negSucc m => exact slow
    | _ => cases m <;> exact slow
  | _ => exact slow
noncomputable def kbits (k : IntKind) : Nat := IntKind.rec (motive := fun _ => Nat) 8 16 32 64 8 16 32 64 k
theorem kbits_eq (k : IntKind) : kbits k = k.bits := by cases k <;> rfl
noncomputable def kmin (a b : Nat) : Nat := Bool.rec (motive := fun _ => Nat → Nat → Nat) (fun _ b => b) (fun a _ => a) (Nat.ble a b) a b
theorem kmin_eq (a b : Nat) : kmin a b = min a b := by
  unfold kmin
  rw [ble_dec]
  by_cases h : a ≤ b
  · rw [decide_eq_true h, Nat.min_eq_left h]
  · rw [decide_eq_false h, Nat.min_eq_right (by omega)]
noncomputable def fShl (k : IntKind) (m n : Nat) : Option AV := mkW k (Nat.mul m (Nat.pow 2 (kmin n (kbits k))))
noncomputable def fShr (k : IntKind) (m n : Nat) : Option AV := mkInt k (Nat.div m (Nat.pow 2 (kmin n (kbits k))))
theorem fShl_eq {E : Env} (t : TypeId) (x y : Operand) (k j : IntKind) (m n : Nat) : fShl k m n = binV E .shl t x y (.int k (.ofNat m)) (.int j (.ofNat n)) := by
  unfold fShl
  rw [mkW_eq, kmin_eq, kbits_eq, binV, if_neg (by simp)]
  congr 2
theorem fShr_eq {E : Env} (t : TypeId) (x y : Operand) (k j : IntKind) (m n : Nat) : fShr k m n = binV E .shr t x y (.int k (.ofNat m)) (.int j (.ofNat n)) := by
  unfold fShr
  rw [mkInt_eq, kmin_eq, kbits_eq, binV, if_neg (by simp)]
  congr 2
  simp only [Int.ofNat_eq_natCast, Int.toNat_natCast]
  rw [show Nat.div m (Nat.pow 2 (min n k.bits)) = m / 2 ^ (min n k.bits) from rfl, Int.fdiv_eq_ediv_of_nonneg _ (by exact_mod_cast Nat.zero_le _)]
  simp
end Go.Av

/- For the kernel: several cells laid; texts compared. -/
namespace Go.Av
noncomputable def ksetL (vs : List AV) (c : T AV) (o : Nat) : T AV := List.rec (motive := fun _ => T AV → Nat → T AV) (fun c _ => c)
  (fun v _ ih c o => T.rec (motive := fun _ => (T AV → Nat → T AV) → Nat → T AV) (fun ih o => ih .leaf (Nat.succ o)) (fun l w r _ _ ih o => ih (.node l w r) (Nat.succ o)) (T.rset c o v) ih o) vs c o
theorem ksetL_eq (vs : List AV) (c : T AV) (o : Nat) : ksetL vs c o = setN c o vs := by
  induction vs generalizing c o with
  | nil => rfl
  | cons v vs ih =>
    change T.rec (motive := fun _ => (T AV → Nat → T AV) → Nat → T AV) (fun ih o => ih .leaf (Nat.succ o)) (fun l w r _ _ ih o => ih (.node l w r) (Nat.succ o)) (T.rset c o v) (ksetL vs) o = _
    rw [T.rset_eq, setN, ← ih]
    cases c.set o v <;> rfl
noncomputable def ksetM (h : Heap) (b o : Nat) (vs : List AV) : Option Heap :=
  Bool.rec (motive := fun _ => Heap → Nat → Nat → List AV → Option Heap) (fun _ _ _ _ => none) (fun h b o vs =>
  Option.rec (motive := fun _ => Heap → Nat → Nat → List AV → Option Heap) (fun _ _ _ _ => none)
    (fun x h b o vs => Blk.rec (motive := fun _ => Heap → Nat → Nat → List AV → Option Heap)
      (fun c n e ro h b o vs => Bool.rec (motive := fun _ => T AV → Nat → TypeId → Heap → Nat → Nat → List AV → Option Heap)
        (fun c n e h b o vs => Bool.rec (motive := fun _ => T AV → Nat → TypeId → Heap → Nat → Nat → List AV → Option Heap) (fun _ _ _ _ _ _ _ => none)
          (fun c n e h b o vs => T.rec (motive := fun _ => Nat → TypeId → Heap → Nat → Option Heap) (fun n e h b => some (kTurn h b (.cells .leaf n e false))) (fun l w r _ _ n e h b => some (kTurn h b (.cells (.node l w r) n e false))) (ksetL vs c o) n e h b)
          (Nat.ble (Nat.add o (klen vs)) n) c n e h b o vs)
        (fun _ _ _ _ _ _ _ => none) ro c n e h b o vs)
      (fun _ _ _ _ _ _ => none) (fun _ _ _ _ _ _ => none) (fun _ _ _ _ _ _ _ _ _ _ _ _ _ => none) (fun _ _ _ _ => none) (fun _ _ _ _ => none) x h b o vs) (T.rget h.b b) h b o vs) (kall1 vs) h b o vs
theorem ksetM_eq (h : Heap) (b o : Nat) (vs : List AV) : ksetM h b o vs = storeCells h b o vs := by
  unfold ksetM storeCells
  rw [kall1_eq]
  cases hv : vs.all AV.one with
  | false =>
    cases h.b.get b with
    | none => rfl
    | some x =>
      cases x with
      | cells c n e ro => cases ro <;> simp
      | _ => rfl
  | true =>
    change Option.rec (motive := fun _ => Heap → Nat → Nat → List AV → Option Heap) (fun _ _ _ _ => none) _ (T.rget h.b b) h b o vs = _
    rw [T.rget_eq]
    cases h.b.get b with
    | none => rfl
    | some x =>
      cases x with
      | cells c n e ro =>
        cases ro with
        | true => rfl
        | false =>
          simp only [Option.bind_eq_bind, Option.bind_some, and_true]
          rw [ble_dec, klen_eq]
          by_cases hle : o + vs.length ≤ n
          · rw [show decide (Nat.add o vs.length ≤ n) = true from decide_eq_true hle, if_pos hle]
            change T.rec (motive := fun _ => Nat → TypeId → Heap → Nat → Option Heap) (fun n e h b => some (kTurn h b (.cells .leaf n e false))) (fun l w r _ _ n e h b => some (kTurn h b (.cells (.node l w r) n e false))) (ksetL vs c o) n e h b = _
            rw [ksetL_eq]
            cases setN c o vs <;> exact congrArg some (kTurn_eq ..)
          · rw [show decide (Nat.add o vs.length ≤ n) = false from decide_eq_false hle, if_neg hle]
      | _ => rfl
noncomputable def kstoreVar2 (E : Env) (t : TypeId) : KS :=
  match E.t t with
  | none => ⟨fun _ _ _ _ => none⟩
  | some ty => ⟨fun h b o v => Bool.rec (motive := fun _ => Nat → Heap → Nat → Nat → AV → Option Heap)
      (fun size h b o v => Bool.rec (motive := fun _ => Heap → Nat → Nat → AV → Option Heap) (fun _ _ _ _ => none) (fun h b o v => ksetM h b o (kcells v)) (Nat.beq (klen (kcells v)) size) h b o v)
      (fun size h b o v => Bool.rec (motive := fun _ => Heap → Nat → Nat → AV → Option Heap) (fun _ _ _ _ => none) (fun h b o v => kset1 h b o v) (Nat.beq size 1) h b o v) (v1 v) ty.size h b o v⟩
theorem kstoreVar2_eq (E : Env) (t : TypeId) (h : Heap) (b o : Nat) (v : AV) : (kstoreVar2 E t).run h b o v = storeVar E h t b o v := by
  unfold kstoreVar2
  cases hE : E.t t with
  | none => simp only [storeVar, hE]; rfl
  | some ty =>
    simp only [storeVar, hE, Option.bind_eq_bind, Option.bind_some]
    change Bool.rec (motive := fun _ => Nat → Heap → Nat → Nat → AV → Option Heap) _ _ (v1 v) ty.size h b o v = _
    cases hv : v1 v with
    | false =>
      change Bool.rec (motive := fun _ => Heap → Nat → Nat → AV → Option Heap) (fun _ _ _ _ => none) (fun h b o v => ksetM h b o (kcells v)) (Nat.beq (klen (kcells v)) ty.size) h b o v = _
      rw [klen_eq, kcells_eq, beq_dec]
      by_cases hs : v.cells.length = ty.size
      · rw [decide_eq_true hs, if_pos hs, ← kcells_eq]; exact ksetM_eq ..
      · rw [decide_eq_false hs, if_neg hs]
    | true =>
      change Bool.rec (motive := fun _ => Heap → Nat → Nat → AV → Option Heap) (fun _ _ _ _ => none) (fun h b o v => kset1 h b o v) (Nat.beq ty.size 1) h b o v = _
      rw [v1_cells hv, beq_dec]
      by_cases hs : ty.size = 1
      · rw [decide_eq_true hs, if_pos (by simp [hs])]; exact kset1_eq _ _ _ _ (by rw [← v1_eq]; exact hv)
      · rw [decide_eq_false hs, if_neg (by simp; omega)]

/-! ### Texts -/
noncomputable def vStr (v : AV) : Option (List Nat) := AV.rec (motive_1 := fun _ => Option (List Nat)) (motive_2 := fun _ => Unit) none (fun _ => none) (fun _ _ => none) (fun s => some s) (fun _ => none) (fun _ _ _ => none) (fun _ => none) (fun _ _ _ _ _ => none) (fun _ => none) none (fun _ _ _ => none) none (fun _ _ => none) (fun _ _ => none) () (fun _ _ _ _ => ()) v
noncomputable def kleq (a b : List Nat) : Bool := List.rec (motive := fun _ => List Nat → Bool) (fun b => List.rec (motive := fun _ => Bool) true (fun _ _ _ => false) b)
  (fun x _ ih b => List.rec (motive := fun _ => Nat → (List Nat → Bool) → Bool) (fun _ _ => false) (fun y ys _ x ih => Bool.rec (motive := fun _ => (List Nat → Bool) → List Nat → Bool) (fun _ _ => false) (fun ih ys => ih ys) (Nat.beq x y) ih ys) b x ih) a b
theorem kleq_eq (a b : List Nat) : kleq a b = (a == b) := by
  induction a generalizing b with
  | nil => cases b <;> rfl
  | cons x a ih =>
    cases b with
    | nil => rfl
    | cons y b =>
      change Bool.rec (motive := fun _ => (List Nat → Bool) → List Nat → Bool) (fun _ _ => false) (fun ih ys => ih ys) (Nat.beq x y) (kleq a) b = _
      rw [beq_dec, List.cons_beq_cons]
      by_cases h : x = y
      · rw [decide_eq_true h, h]
        change kleq a b = _
        rw [ih]; simp
      · rw [decide_eq_false h]
        have : (x == y) = false := by simpa using h
        rw [this]; rfl
/-- Two texts; else the slow way. -/
noncomputable def kstr2 (neg : Bool) (s : AV → AV → St → Option OR) (a b : AV) (st : St) : Option OR :=
  Option.rec (motive := fun _ => Bool → (AV → AV → St → Option OR) → AV → AV → St → Option OR) (fun _ s a b st => s a b st)
    (fun x neg s a b st => Option.rec (motive := fun _ => List Nat → Bool → (AV → AV → St → Option OR) → AV → AV → St → Option OR) (fun _ _ s a b st => s a b st)
      (fun y x neg _ _ _ st => Bool.rec (motive := fun _ => Bool → St → Option OR) (fun neg st => some (.val (.bool neg) st)) (fun neg st => Bool.rec (motive := fun _ => St → Option OR) (fun st => some (.val (.bool true) st)) (fun st => some (.val (.bool false) st)) neg st) (kleq x y) neg st) (vStr b) x neg s a b st) (vStr a) neg s a b st
theorem kstr2_eq (neg : Bool) (s : AV → AV → St → Option OR) (a b : AV) (st : St) (h : ∀ x y, a = .str x → b = .str y → some (OR.val (.bool (if neg then !(x == y) else x == y)) st) = s a b st) : kstr2 neg s a b st = s a b st := by
  cases a with
  | str x =>
    cases b with
    | str y =>
      rw [← h x y rfl rfl]
      change Bool.rec (motive := fun _ => Bool → St → Option OR) (fun neg st => some (.val (.bool neg) st)) (fun neg st => Bool.rec (motive := fun _ => St → Option OR) (fun st => some (.val (.bool true) st)) (fun st => some (.val (.bool false) st)) neg st) (kleq x y) neg st = _
      rw [kleq_eq]
      cases neg <;> cases (x == y) <;> rfl
    | _ => rfl
  | _ => rfl
end Go.Av

/- For the kernel: more operations. -/
namespace Go.Av

noncomputable def knil (v : AV) (st : St) : Option OR :=
  AV.rec (motive_1 := fun _ => St → Option OR) (motive_2 := fun _ => Unit) (fun _ => none) (fun _ _ => none) (fun _ _ _ => none) (fun _ _ => none)
    (fun a st => Option.rec (motive := fun _ => St → Option OR) (fun _ => none) (fun p st => some (.val (.ptr (some p)) st)) a st) (fun _ _ _ _ => none) (fun _ _ => none) (fun f a b _ _ st => some (.val (.func f a b) st)) (fun _ _ => none) (fun _ => none) (fun _ _ _ _ => none) (fun _ => none) (fun _ _ _ => none) (fun _ _ _ => none) () (fun _ _ _ _ => ()) v st
theorem knil_eq (st : St) (x : Operand) : on1 (ev st.tm x) knil st = oNilCheck st x := by
  unfold oNilCheck
  cases ev st.tm x with
  | none => rfl
  | some v => cases v with
    | ptr a => cases a <;> rfl
    | _ => rfl
/-- The place of an element. -/
noncomputable def kixS (size : Nat) (v i : AV) (st : St) : Option OR :=
  Option.rec (motive := fun _ => Nat → AV → St → Option OR) (fun _ _ _ => none) (fun p size v st => Prod.rec (motive := fun _ => Nat → AV → St → Option OR) (fun _ n size v st => Int.rec (motive := fun _ => Nat → AV → St → Option OR)
    (fun n size v st => Option.rec (motive := fun _ => Nat → Nat → St → Option OR) (fun _ _ _ => none) (fun q size n st => Prod.rec (motive := fun _ => Nat → Nat → St → Option OR) (fun a len size n st => Option.rec (motive := fun _ => Nat → Nat → Nat → St → Option OR) (fun _ _ _ _ => none)
      (fun p len size n st => Bool.rec (motive := fun _ => Nat × Nat → Nat → Nat → St → Option OR) (fun _ _ _ _ => none) (fun p size n st => Prod.rec (motive := fun _ => Nat → Nat → St → Option OR) (fun b o size n st => some (.val (.ptr (some (b, Nat.add o (Nat.mul n size)))) st)) p size n st) (Nat.ble (Nat.succ n) len) p size n st) a len size n st) q size n st) (vS v) size n st)
    (fun _ _ _ _ => none) n size v st) p size v st) (vI i) size v st
theorem kixS_eq {E : Env} {t : TypeId} {ty te : ATy} {e : TypeId} (ht : E.t t = some ty) (hd : ty.d = .slice e) (he : E.t e = some te) (v i : AV) (st : St) : kixS te.size v i st = valR st (indexA E t v i) := by
  cases i with
  | int k n =>
    cases n with
    | negSucc n => rfl
    | ofNat n =>
      simp only [indexA, ht, Option.bind_eq_bind, Option.bind_some, hd]
      cases v with
      | slice a len cap =>
        cases a with
        | none => rfl
        | some p =>
          obtain ⟨b, o⟩ := p
          simp only [he, Option.bind_some]
          change Bool.rec (motive := fun _ => Nat × Nat → Nat → Nat → St → Option OR) (fun _ _ _ _ => none) (fun p size n st => Prod.rec (motive := fun _ => Nat → Nat → St → Option OR) (fun b o size n st => some (.val (.ptr (some (b, Nat.add o (Nat.mul n size)))) st)) p size n st) (Nat.ble (Nat.succ n) len) (b, o) te.size n st = _
          rw [ble_dec]
          by_cases h : n < len
          · rw [decide_eq_true (Nat.succ_le_of_lt h), if_pos h]; rfl
          · rw [decide_eq_false (by omega), if_neg h]; rfl
      | _ => rfl
  | _ => rfl
noncomputable def kixA (size len : Nat) (v i : AV) (st : St) : Option OR :=
  Option.rec (motive := fun _ => Nat → Nat → AV → St → Option OR) (fun _ _ _ _ => none) (fun p size len v st => Prod.rec (motive := fun _ => Nat → Nat → AV → St → Option OR) (fun _ n size len v st => Int.rec (motive := fun _ => Nat → Nat → AV → St → Option OR)
    (fun n size len v st => Option.rec (motive := fun _ => Nat → Nat → Nat → St → Option OR) (fun _ _ _ _ => none)
      (fun p size len n st => Bool.rec (motive := fun _ => Nat × Nat → Nat → Nat → St → Option OR) (fun _ _ _ _ => none) (fun p size n st => Prod.rec (motive := fun _ => Nat → Nat → St → Option OR) (fun b o size n st => some (.val (.ptr (some (b, Nat.add o (Nat.mul n size)))) st)) p size n st) (Nat.ble (Nat.succ n) len) p size n st) (vP v) size len n st)
    (fun _ _ _ _ _ => none) n size len v st) p size len v st) (vI i) size len v st
theorem kixA_eq {E : Env} {t : TypeId} {ty te : ATy} {len : Nat} {e : TypeId} (ht : E.t t = some ty) (hd : ty.d = .array len e) (he : E.t e = some te) (v i : AV) (st : St) : kixA te.size len v i st = valR st (indexA E t v i) := by
  cases i with
  | int k n =>
    cases n with
    | negSucc n => rfl
    | ofNat n =>
      simp only [indexA, ht, Option.bind_eq_bind, Option.bind_some, hd]
      cases v with
      | ptr a =>
        cases a with
        | none => rfl
        | some p =>
          obtain ⟨b, o⟩ := p
          simp only [he, Option.bind_some]
          change Bool.rec (motive := fun _ => Nat × Nat → Nat → Nat → St → Option OR) (fun _ _ _ _ => none) (fun p size n st => Prod.rec (motive := fun _ => Nat → Nat → St → Option OR) (fun b o size n st => some (.val (.ptr (some (b, Nat.add o (Nat.mul n size)))) st)) p size n st) (Nat.ble (Nat.succ n) len) (b, o) te.size n st = _
          rw [ble_dec]
          by_cases h : n < len
          · rw [decide_eq_true (Nat.succ_le_of_lt h), if_pos h]; rfl
          · rw [decide_eq_false (by omega), if_neg h]; rfl
      | _ => rfl
  | _ => rfl
noncomputable def klook (l : List AV) (i : Nat) : Option AV := List.rec (motive := fun _ => Nat → Option AV) (fun _ => none) (fun x _ ih i => Nat.rec (motive := fun _ => AV → (Nat → Option AV) → Option AV) (fun x _ => some x) (fun j _ _ ih => ih j) i x ih) l i
theorem klook_eq (l : List AV) (i : Nat) : klook l i = l[i]? := by
  induction l generalizing i with
  | nil => rfl
  | cons x l ih => cases i with
    | zero => rfl
    | succ j => exact (ih j).trans (by simp)
noncomputable def kext (i : Nat) (v : AV) (st : St) : Option OR := Option.rec (motive := fun _ => Nat → St → Option OR) (fun _ _ => none) (fun l i st => kval (klook l i) st) (vT v) i st
theorem kext_eq (st : St) (x : Operand) (i : Nat) : on1 (ev st.tm x) (kext i) st = oExtract st x i := by
  unfold oExtract
  cases ev st.tm x with
  | none => rfl
  | some v => cases v with
    | tuple vs => exact (kval_eq _ _).trans (by rw [klook_eq]; rfl)
    | _ => rfl
noncomputable def kcvt (k : IntKind) (v : AV) (st : St) : Option OR := Option.rec (motive := fun _ => IntKind → AV → St → Option OR) (fun _ _ _ => none)
  (fun p k _ st => Prod.rec (motive := fun _ => IntKind → St → Option OR) (fun _ z k st => Int.rec (motive := fun _ => IntKind → St → Option OR) (fun n k st => kval (mkW k n) st) (fun n k st => kval (mkI k (k.wrap (.negSucc n))) st) z k st) p k st) (vI v) k v st
/-- Parts laid into cells. -/
noncomputable def kupd (l : List AV) (o : Nat) (v : AV) : Option (List AV) := List.rec (motive := fun _ => Nat → AV → Option (List AV)) (fun _ _ => none)
  (fun x xs ih o v => Nat.rec (motive := fun _ => AV → List AV → (Nat → AV → Option (List AV)) → AV → Option (List AV)) (fun _ xs _ v => some (v :: xs)) (fun j _ x _ ih v => Option.rec (motive := fun _ => AV → Option (List AV)) (fun _ => none) (fun r x => some (x :: r)) (ih j v) x) o x xs ih v) l o v
theorem kupd_eq (l : List AV) (o : Nat) (v : AV) : kupd l o v = lay l o [v] := by
  induction l generalizing o with
  | nil => simp only [lay, List.length_singleton, List.length_nil, Nat.le_zero, Nat.add_one_ne_zero, if_false]; rfl
  | cons x xs ih =>
    cases o with
    | zero => simp [lay]; rfl
    | succ j =>
      change Option.rec (motive := fun _ => AV → Option (List AV)) (fun _ => none) (fun r x => some (x :: r)) (kupd xs j v) x = _
      rw [ih]
      have e1 : ([v] : List AV).length = 1 := rfl
      have e2 : (x :: xs).length = xs.length + 1 := rfl
      unfold lay
      rw [e1, e2]
      by_cases h : j + 1 ≤ xs.length
      · rw [if_pos h, if_pos (by omega)]; simp
      · rw [if_neg h, if_neg (by omega)]
noncomputable def klay (l : List AV) (o size : Nat) (v : AV) : Option (List AV) :=
  Bool.rec (motive := fun _ => List AV → Nat → Nat → AV → Option (List AV)) (fun l o size v => if v.cells.length = size then lay l o v.cells else none)
    (fun l o size v => Bool.rec (motive := fun _ => List AV → Nat → AV → Option (List AV)) (fun _ _ _ => none) (fun l o v => kupd l o v) (Nat.beq size 1) l o v) (v1 v) l o size v
theorem klay_eq (l : List AV) (o size : Nat) (v : AV) : klay l o size v = if v.cells.length = size then lay l o v.cells else none := by
  unfold klay
  cases hv : v1 v with
  | false => rfl
  | true =>
    change Bool.rec (motive := fun _ => List AV → Nat → AV → Option (List AV)) (fun _ _ _ => none) (fun l o v => kupd l o v) (Nat.beq size 1) l o v = _
    rw [v1_cells hv, beq_dec]
    by_cases h : size = 1
    · rw [decide_eq_true h, if_pos (by simp [h])]; exact kupd_eq ..
    · rw [decide_eq_false h, if_neg (by simp; omega)]
structure KF where run : T AV → List AV → Option (List AV)
noncomputable def kstep (v : Option AV) (o size : Nat) (tm : T AV) (cs : List AV) (r : KF) : Option (List AV) :=
  Option.rec (motive := fun _ => Nat → Nat → T AV → List AV → KF → Option (List AV)) (fun _ _ _ _ _ => none) (fun v o size tm cs r => Option.rec (motive := fun _ => T AV → KF → Option (List AV)) (fun _ _ => none) (fun cs tm r => r.run tm cs) (klay cs o size v) tm r) v o size tm cs r
noncomputable def kfill (place : Nat → Option (Nat × Nat)) : List (Nat × Operand) → KF
  | [] => ⟨fun _ cs => some cs⟩
  | (i, x) :: r => match place i with
    | none => ⟨fun _ _ => none⟩
    | some (o, size) => ⟨fun tm cs => kstep ((kev x).run tm) o size tm cs (kfill place r)⟩
theorem kfill_eq (place : Nat → Option (Nat × Nat)) : ∀ (ps : List (Nat × Operand)) (tm : T AV) (cs : List AV), (kfill place ps).run tm cs = (evParts tm ps).bind fun ps => fillP place ps cs
  | [], _, _ => rfl
  | (i, x) :: r, tm, cs => by
    unfold kfill
    simp only [evParts, Option.bind_eq_bind]
    cases hp : place i with
    | none =>
      simp only
      cases ev tm x with
      | none => rfl
      | some v => cases evParts tm r with
        | none => rfl
        | some vs => simp [fillP, hp]
    | some q =>
      obtain ⟨o, size⟩ := q
      change kstep ((kev x).run tm) o size tm cs (kfill place r) = _
      rw [kev_eq]
      cases ev tm x with
      | none => rfl
      | some v =>
        change Option.rec (motive := fun _ => T AV → KF → Option (List AV)) (fun _ _ => none) (fun cs tm r => r.run tm cs) (klay cs o size v) tm (kfill place r) = _
        rw [klay_eq]
        by_cases hs : v.cells.length = size
        · rw [if_pos hs]
          cases hl : lay cs o v.cells with
          | none => cases evParts tm r with
            | none => rfl
            | some vs => simp [fillP, hp, hs, hl]
          | some cs' =>
            change (kfill place r).run tm cs' = _
            rw [kfill_eq place r tm cs']
            cases evParts tm r with
            | none => rfl
            | some vs => simp [fillP, hp, hs, hl]
        · rw [if_neg hs]
          cases evParts tm r with
          | none => rfl
          | some vs => simp [fillP, hp, hs]
noncomputable def kagg (x : Option (List AV)) (st : St) : Option OR := Option.rec (motive := fun _ => St → Option OR) (fun _ => none) (fun l st => some (.val (.agg l) st)) x st
noncomputable def kbuild (E : Env) (t : TypeId) (ps : List (Nat × Operand)) : KO :=
  match E.t t with
  | none => ⟨fun _ _ _ => none⟩
  | some ty => match ty.zero with
    | none => ⟨fun _ _ _ => none⟩
    | some z => match ty.d with
      | .struct fields => match fieldsOf E fields.toList with
        | none => ⟨fun _ _ _ => none⟩
        | some pl => ⟨fun _ _ st => kagg ((kfill (fun i => pl[i]?) ps).run st.tm z.cells) st⟩
      | .array _ e => match E.t e with
        | none => ⟨fun _ _ _ => none⟩
        | some te => ⟨fun _ _ st => kagg ((kfill (fun i => some (i * te.size, te.size)) ps).run st.tm z.cells) st⟩
      | _ => ⟨fun _ _ _ => none⟩
theorem kbuild_eq (E : Env) (R : Rec) (cx : Cx) (st : St) (t : TypeId) (ps : Array (Nat × Operand)) : (kbuild E t ps.toList).run R cx st = oBuild E st t ps := by
  have none' : ∀ {x : Option (List (Nat × AV))} {f : List (Nat × AV) → Option OR}, (∀ a, f a = none) → none = x.bind f := by
    intro x f h; cases x with
    | none => rfl
    | some a => exact (h a).symm
  have agg' : ∀ {x : Option (List (Nat × AV))} {g : List (Nat × AV) → Option (List AV)}, kagg (x.bind g) st = x.bind fun ps => valR st ((g ps).map .agg) := by
    intro x g; cases x with
    | none => rfl
    | some a =>
      simp only [Option.bind_some]
      cases g a <;> rfl
  unfold kbuild oBuild buildV
  simp only [Option.bind_eq_bind]
  cases E.t t with
  | none => exact none' fun _ => rfl
  | some ty =>
    simp only [Option.bind_some]
    cases ty.zero with
    | none => exact none' fun _ => rfl
    | some z =>
      simp only [Option.bind_some]
      cases ty.d with
      | struct fields =>
        simp only
        cases fieldsOf E fields.toList with
        | none => exact none' fun _ => rfl
        | some pl =>
          change kagg ((kfill (fun i => pl[i]?) ps.toList).run st.tm z.cells) st = _
          rw [kfill_eq]; exact agg'
      | array n e =>
        simp only
        cases E.t e with
        | none => exact none' fun _ => rfl
        | some te =>
          change kagg ((kfill (fun i => some (i * te.size, te.size)) ps.toList).run st.tm z.cells) st = _
          rw [kfill_eq]; exact agg'
      | _ => exact none' fun _ => rfl
end Go.Av

/- For the kernel: calls, regions, code; the whole evaluator. -/
namespace Go.Av

noncomputable def kPan (c : Chain) (st : St) (h : Heap) : Option OR := Heap.rec (motive := fun _ => Chain → St → Option OR) (fun b n c st => St.rec (motive := fun _ => Chain → T Blk → Nat → Option OR) (fun tm df up _ c b n => some (.pan c ⟨tm, df, up, ⟨b, n⟩⟩)) st c b n) h c st
noncomputable def kRes (r : Option Rs) (st : St) : Option OR := Option.rec (motive := fun _ => St → Option OR) (fun _ => none) (fun r st => Rs.rec (motive := fun _ => St → Option OR) (fun v _ h st => kAt v st h) (fun c _ h st => kPan c st h) r st) r st
theorem kRes_eq (r : Option Rs) (st : St) : kRes r st = (do
    match ← r with
    | .ret v _ h => some (.val v (st.at h))
    | .pan c _ h => some (.pan c (st.at h))) := by
  cases r with
  | none => rfl
  | some r => cases r with
    | ret v u h => exact kAt_eq ..
    | pan c u h => cases h; cases st; rfl
noncomputable def kapp (a b : List AV) : List AV := List.rec (motive := fun _ => List AV → List AV) (fun b => b) (fun x _ ih b => x :: ih b) a b
theorem kapp_eq (a b : List AV) : kapp a b = a ++ b := by
  induction a with
  | nil => rfl
  | cons x a ih => exact congrArg (x :: ·) ih
noncomputable def kcall1 (args : Option (List AV)) (g : FuncId) (R : Rec) (st : St) : Option OR := Option.rec (motive := fun _ => FuncId → Rec → St → Option OR) (fun _ _ _ => none) (fun vs g R st => kRes (R.call g vs none st.hp) st) args g R st
/-- A function's value called. -/
noncomputable def kcallV (E : Env) (f : AV) (args : List AV) (R : Rec) (st : St) : Option OR :=
  AV.rec (motive_1 := fun _ => Env → List AV → Rec → St → Option OR) (motive_2 := fun _ => Unit) (fun _ _ _ _ => none) (fun _ _ _ _ _ => none) (fun _ _ _ _ _ _ => none) (fun _ _ _ _ _ => none) (fun _ _ _ _ _ => none) (fun _ _ _ _ _ _ _ => none) (fun _ _ _ _ _ => none)
    (fun g a c _ _ E args R st => Option.rec (motive := fun _ => Env → FuncId → List AV → List AV → List AV → Rec → St → Option OR) (fun _ g a c args R st => kRes (R.call g (kapp a (kapp args c)) none st.hp) st)
      (fun _ E g a c args R st => kRes (callV E R (.func g a c) args st.hp) st) (T.rget E.ext g) E g a c args R st)
    (fun l E args R st => kRes (callV E R (.yield l) args st.hp) st) (fun _ _ _ _ => none) (fun _ _ _ _ _ _ _ => none) (fun _ _ _ _ => none) (fun _ _ _ _ _ _ => none) (fun _ _ _ _ _ _ => none) () (fun _ _ _ _ => ()) f E args R st
theorem kcallV_eq (E : Env) (f : AV) (args : List AV) (R : Rec) (st : St) : kcallV E f args R st = (do
    match ← callV E R f args st.hp with
    | .ret v _ h => some (.val v (st.at h))
    | .pan c _ h => some (.pan c (st.at h))) := by
  cases f with
  | func g a c =>
    change Option.rec (motive := fun _ => Env → FuncId → List AV → List AV → List AV → Rec → St → Option OR) (fun _ g a c args R st => kRes (R.call g (kapp a (kapp args c)) none st.hp) st)
      (fun _ E g a c args R st => kRes (callV E R (.func g a c) args st.hp) st) (T.rget E.ext g) E g a c args R st = _
    rw [T.rget_eq]
    cases h : E.ext.get g with
    | none =>
      change kRes (R.call g (kapp a (kapp args c)) none st.hp) st = _
      rw [kRes_eq, kapp_eq, kapp_eq, ← List.append_assoc]
      simp only [callV, h]
    | some n => exact kRes_eq ..
  | yield l => exact kRes_eq ..
  | _ => rfl
noncomputable def kcallT (E : Env) (f : Option AV) (args : Option (List AV)) (R : Rec) (st : St) : Option OR := Option.rec (motive := fun _ => Env → Option (List AV) → Rec → St → Option OR) (fun _ _ _ _ => none)
  (fun f E args R st => Option.rec (motive := fun _ => Env → AV → Rec → St → Option OR) (fun _ _ _ _ => none) (fun vs E f R st => kcallV E f vs R st) args E f R st) f E args R st
noncomputable def klenS (v : AV) (st : St) : Option OR := Option.rec (motive := fun _ => St → Option OR) (fun _ => none) (fun p st => Prod.rec (motive := fun _ => St → Option OR) (fun _ n st => kval (mkInt .i64 n) st) p st) (vS v) st
noncomputable def klenT (v : AV) (st : St) : Option OR := AV.rec (motive_1 := fun _ => St → Option OR) (motive_2 := fun _ => Unit) (fun _ => none) (fun _ _ => none) (fun _ _ _ => none) (fun s st => kval (mkInt .i64 (klen s)) st) (fun _ _ => none) (fun _ _ _ _ => none) (fun _ _ => none) (fun _ _ _ _ _ _ => none) (fun _ _ => none) (fun _ => none) (fun _ _ _ _ => none) (fun _ => none) (fun _ _ _ => none) (fun _ _ _ => none) () (fun _ _ _ _ => ()) v st
noncomputable def kbi (E : Env) (b : Builtin) (ts : List TypeId) (vs : Option (List AV)) (cx : Cx) (st : St) : Option OR := Option.rec (motive := fun _ => Env → Builtin → List TypeId → Cx → St → Option OR) (fun _ _ _ _ _ => none) (fun vs E b ts cx st => builtinV E cx b ts vs st) vs E b ts cx st
theorem kbi_eq (E : Env) (b : Builtin) (ts : List TypeId) (vs : Option (List AV)) (cx : Cx) (st : St) : kbi E b ts vs cx st = (do let vs ← vs; builtinV E cx b ts vs st) := by cases vs <;> rfl
noncomputable def kCallO (E : Env) (c : Call) : KO :=
  match c.callee with
  | .builtin .len => match c.argTypes.toList, c.args.toList with
    | [t], [x] => match E.t t with
      | none => ⟨fun R cx st => oCall E R cx st c⟩
      | some ty => match ty.d with
        | .slice _ => ⟨fun _ _ st => on1 ((kev x).run st.tm) klenS st⟩
        | .string => ⟨fun _ _ st => on1 ((kev x).run st.tm) klenT st⟩
        | _ => ⟨fun R cx st => oCall E R cx st c⟩
    | _, _ => ⟨fun R cx st => oCall E R cx st c⟩
  | .builtin b => ⟨fun _ cx st => kbi E b c.argTypes.toList ((kevs c.args.toList).run st.tm) cx st⟩
  | .value (.func g) => match E.ext.get g with
    | none => ⟨fun R _ st => kcall1 ((kevs c.args.toList).run st.tm) g R st⟩
    | some _ => ⟨fun R cx st => oCall E R cx st c⟩
  | .value f => ⟨fun R _ st => kcallT E ((kev f).run st.tm) ((kevs c.args.toList).run st.tm) R st⟩
  | .invoke _ _ => ⟨fun R cx st => oCall E R cx st c⟩
theorem kCallO_eq (E : Env) (R : Rec) (cx : Cx) (st : St) (c : Call) : (kCallO E c).run R cx st = oCall E R cx st c := by
  unfold kCallO
  split
  · rename_i hc
    split
    · rename_i t x ht hx
      split
      · rfl
      · rename_i ty hE
        have key : ∀ f : AV → Option Nat, (∀ v, lenV E st.hp t v = f v) → oCall E R cx st c = (do let v ← ev st.tm x; (f v).map fun n => OR.val (.int .i64 (.ofNat n)) st) := by
          intro f hf
          simp only [oCall, hc, hx, ht, evs, Option.bind_eq_bind]
          cases ev st.tm x with
          | none => rfl
          | some v => simp only [Option.bind_some, builtinV, hf]
        split
        · rename_i e hd
          rw [key (fun v => match v with | .slice _ n _ => some n | _ => none) (fun v => by
            simp only [lenV, hE, Option.bind_eq_bind, Option.bind_some, hd]
            cases v <;> rfl)]
          change on1 ((kev x).run st.tm) klenS st = _
          rw [on1_eq, kev_eq]
          cases ev st.tm x with
          | none => rfl
          | some v => cases v with
            | slice a n c => exact (kval_eq _ _).trans (by rw [mkInt_eq]; rfl)
            | _ => rfl
        · rename_i hd
          rw [key (fun v => match v with | .str s => some s.length | _ => none) (fun v => by
            simp only [lenV, hE, Option.bind_eq_bind, Option.bind_some, hd]
            cases v <;> rfl)]
          change on1 ((kev x).run st.tm) klenT st = _
          rw [on1_eq, kev_eq]
          cases ev st.tm x with
          | none => rfl
          | some v => cases v with
            | str s => exact (kval_eq _ _).trans (by rw [mkInt_eq, klen_eq]; rfl)
            | _ => rfl
        · rfl
    · rfl
  · rename_i b hb hc
    change kbi E b c.argTypes.toList ((kevs c.args.toList).run st.tm) cx st = _
    rw [kbi_eq, kevs_eq]
    simp only [oCall, hc]
  · rename_i g hc
    split
    · rename_i he
      change kcall1 ((kevs c.args.toList).run st.tm) g R st = _
      rw [kevs_eq]
      simp only [oCall, hc, callee, ev, Option.bind_eq_bind, Option.bind_some]
      cases evs st.tm c.args.toList with
      | none => rfl
      | some vs =>
        simp only [Option.bind_some, callV, he, List.nil_append, List.append_nil]
        exact kRes_eq ..
    · rfl
  · rename_i f hf hc
    change kcallT E ((kev f).run st.tm) ((kevs c.args.toList).run st.tm) R st = _
    rw [kevs_eq, kev_eq]
    simp only [oCall, hc, callee, Option.bind_eq_bind]
    cases ev st.tm f with
    | none => rfl
    | some fv =>
      cases evs st.tm c.args.toList with
      | none => rfl
      | some vs => exact kcallV_eq ..
  · rfl
noncomputable def knot (v : AV) (st : St) : Option OR := Option.rec (motive := fun _ => St → Option OR) (fun _ => none) (fun b st => Bool.rec (motive := fun _ => St → Option OR) (fun st => some (.val (.bool true) st)) (fun st => some (.val (.bool false) st)) b st) (vB v) st
noncomputable def kfn (f : FuncId) (a b : Option (List AV)) (st : St) : Option OR := Option.rec (motive := fun _ => Option (List AV) → FuncId → St → Option OR) (fun _ _ _ => none) (fun a b f st => Option.rec (motive := fun _ => List AV → FuncId → St → Option OR) (fun _ _ _ => none) (fun b a f st => some (.val (.func f a b) st)) b a f st) a b f st
noncomputable def kOp (E : Env) (op : Op) : KO :=
  match op with
  | .move x => ⟨fun _ _ st => kval ((kev x).run st.tm) st⟩
  | .assign x => ⟨fun _ _ st => kval ((kev x).run st.tm) st⟩
  | .pick c a b => ⟨fun _ _ st => kpick ((kev c).run st.tm) (kev a) (kev b) st⟩
  | .alloc t => match E.t t with
    | none => ⟨fun _ _ _ => none⟩
    | some ty => match ty.zero with
      | none => ⟨fun _ _ _ => none⟩
      | some z => ⟨fun _ _ st => krow t z.cells (fun n => .ptr (some (n, 0))) st⟩
  | .box t x => match E.t t with
    | none => ⟨fun _ _ _ => none⟩
    | some _ => ⟨fun _ _ st => kbox t ((kev x).run st.tm) st⟩
  | .build t ps => kbuild E t ps.toList
  | .load t x => ⟨fun _ _ st => onP ((kev x).run st.tm) (fun b o st => kval ((kloadVar E t).run st.hp b o) st) st⟩
  | .store t x y => ⟨fun _ _ st => onP ((kev x).run st.tm) (fun b o st => on1 ((kev y).run st.tm) (fun v st => kput .undef ((kstoreVar2 E t).run st.hp b o v) st) st) st⟩
  | .nilCheck x => ⟨fun _ _ st => on1 ((kev x).run st.tm) knil st⟩
  | .binOp .shl t x y _ => ⟨fun _ _ st => on2 ((kev x).run st.tm) ((kev y).run st.tm) (fun a b st => onSh fShl (binV E .shl t x y) a b st) st⟩
  | .binOp .shr t x y _ => ⟨fun _ _ st => on2 ((kev x).run st.tm) ((kev y).run st.tm) (fun a b st => onSh fShr (binV E .shr t x y) a b st) st⟩
  | .binOp .eql t x y _ => ⟨fun _ _ st => on2 ((kev x).run st.tm) ((kev y).run st.tm) (fun a b st => kstr2 false (fun a b st => kbin (kInt .eql) (binV E .eql t x y) a b st) a b st) st⟩
  | .binOp .neq t x y _ => ⟨fun _ _ st => on2 ((kev x).run st.tm) ((kev y).run st.tm) (fun a b st => kstr2 true (fun a b st => kbin (kInt .neq) (binV E .neq t x y) a b st) a b st) st⟩
  | .binOp op t x y _ => ⟨fun _ _ st => on2 ((kev x).run st.tm) ((kev y).run st.tm) (fun a b st => kbin (kInt op) (binV E op t x y) a b st) st⟩
  | .unOp .not _ x => ⟨fun _ _ st => on1 ((kev x).run st.tm) knot st⟩
  | .convert src dst x => match E.t src, E.t dst with
    | some _, some d => match d.d with
      | .int k => ⟨fun _ _ st => on1 ((kev x).run st.tm) (kcvt k) st⟩
      | _ => ⟨fun _ _ st => oConvert E st src dst x⟩
    | _, _ => ⟨fun _ _ st => oConvert E st src dst x⟩
  | .makeFunc (.func f) a b => ⟨fun _ _ st => kfn f ((kevs a.toList).run st.tm) ((kevs b.toList).run st.tm) st⟩
  | .fieldAddr s x f => match fieldOf E s f with
    | none => ⟨fun _ _ _ => none⟩
    | some (tf, off) => if tf.size = 0 then ⟨fun _ _ _ => none⟩ else ⟨fun _ _ st => onP ((kev x).run st.tm) (fun b o st => some (.val (.ptr (some (b, Nat.add o off))) st)) st⟩
  | .indexAddr t x i => match E.t t with
    | none => ⟨fun _ _ _ => none⟩
    | some ty => match ty.d with
      | .slice e => match E.t e with
        | none => ⟨fun _ _ st => oIndexAddr E st t x i⟩
        | some te => ⟨fun _ _ st => on2 ((kev x).run st.tm) ((kev i).run st.tm) (fun v i st => kixS te.size v i st) st⟩
      | .array len e => match E.t e with
        | none => ⟨fun _ _ st => oIndexAddr E st t x i⟩
        | some te => ⟨fun _ _ st => on2 ((kev x).run st.tm) ((kev i).run st.tm) (fun v i st => kixA te.size len v i st) st⟩
      | _ => ⟨fun _ _ st => oIndexAddr E st t x i⟩
  | .extract x i => ⟨fun _ _ st => on1 ((kev x).run st.tm) (kext i) st⟩
  | .call c => kCallO E c
  | op => ⟨fun R cx st => opGo E R cx op st⟩
theorem kOp_eq (E : Env) (R : Rec) (cx : Cx) (op : Op) (st : St) : (kOp E op).run R cx st = opGo E R cx op st := by
  unfold kOp
  split
  · exact (kval_eq _ _).trans (by rw [kev_eq]; rfl)
  · exact (kval_eq _ _).trans (by rw [kev_eq]; rfl)
  · change kpick _ _ _ _ = _
    rw [kev_eq]; exact kpick_eq ..
  · simp only [opGo, oAlloc]
    split
    · rename_i h; simp [h]
    · rename_i ty h
      simp only [h, Option.bind_eq_bind, Option.bind_some]
      split
      · rename_i h1; simp [h1]
      · rename_i z h1
        simp only [h1, Option.bind_some]
        exact krow_eq ..
  · simp only [opGo, oBox]
    split
    · rename_i h; simp [h]
    · rename_i t x _ ty h
      simp only [h, Option.bind_eq_bind, Option.bind_some]
      change kbox t ((kev x).run st.tm) st = _
      rw [kev_eq]
      cases ev st.tm x with
      | none => rfl
      | some v => exact (krow_eq ..).trans (by rw [kcells_eq]; rfl)
  · exact kbuild_eq ..
  · change onP _ _ _ = _
    rw [onP_eq, kev_eq]
    simp only [opGo, oLoad, kval_eq, kloadVar_eq]
    rfl
  · change onP _ _ _ = _
    rw [onP_eq, kev_eq]
    simp only [opGo, oStore, on1_eq, kput_eq, kstoreVar2_eq, kev_eq]
    rfl
  · change on1 _ _ _ = _
    rw [kev_eq]; exact knil_eq ..
  · rename_i t x y _
    change on2 _ _ _ _ = _
    rw [on2_eq, kev_eq, kev_eq]
    simp only [opGo, oBinOp]
    cases ev st.tm x with
    | none => rfl
    | some a => cases ev st.tm y with
      | none => rfl
      | some b => exact onSh_eq _ _ _ _ _ (fun k j m n e1 e2 => by rw [e1, e2]; exact fShl_eq t x y k j m n)
  · rename_i t x y _
    change on2 _ _ _ _ = _
    rw [on2_eq, kev_eq, kev_eq]
    simp only [opGo, oBinOp]
    cases ev st.tm x with
    | none => rfl
    | some a => cases ev st.tm y with
      | none => rfl
      | some b => exact onSh_eq _ _ _ _ _ (fun k j m n e1 e2 => by rw [e1, e2]; exact fShr_eq t x y k j m n)
  · rename_i t x y _
    change on2 _ _ _ _ = _
    rw [on2_eq, kev_eq, kev_eq]
    simp only [opGo, oBinOp]
    cases ev st.tm x with
    | none => rfl
    | some a => cases ev st.tm y with
      | none => rfl
      | some b =>
        have hb : kbin (kInt .eql) (binV E .eql t x y) a b st = valR st (binV E .eql t x y a b) := kbin_eq _ _ _ _ _ (fun k m n e1 e2 => by rw [e1, e2, kInt_eq, binV_int (by simp) (by simp)])
        exact (kstr2_eq _ _ _ _ _ (fun x' y' e1 e2 => by rw [hb, e1, e2]; rfl)).trans hb
  · rename_i t x y _
    change on2 _ _ _ _ = _
    rw [on2_eq, kev_eq, kev_eq]
    simp only [opGo, oBinOp]
    cases ev st.tm x with
    | none => rfl
    | some a => cases ev st.tm y with
      | none => rfl
      | some b =>
        have hb : kbin (kInt .neq) (binV E .neq t x y) a b st = valR st (binV E .neq t x y a b) := kbin_eq _ _ _ _ _ (fun k m n e1 e2 => by rw [e1, e2, kInt_eq, binV_int (by simp) (by simp)])
        exact (kstr2_eq _ _ _ _ _ (fun x' y' e1 e2 => by rw [hb, e1, e2]; rfl)).trans hb
  · rename_i op t x y _ h1 h2 _ _
    change on2 _ _ _ _ = _
    rw [on2_eq, kev_eq, kev_eq]
    simp only [opGo, oBinOp]
    cases ev st.tm x with
    | none => rfl
    | some a => cases ev st.tm y with
      | none => rfl
      | some b => exact kbin_eq _ _ _ _ _ (fun k m n e1 e2 => by rw [e1, e2, kInt_eq, binV_int h1 h2])
  · rename_i x
    change on1 _ _ _ = _
    rw [on1_eq, kev_eq]
    simp only [opGo, oUnOp]
    cases ev st.tm x with
    | none => rfl
    | some v => cases v with
      | bool b => cases b <;> rfl
      | _ => rfl
  · simp only [opGo]
    split
    · rename_i src dst x _ _ s d h1 h2
      split
      · rename_i k h3
        change on1 _ _ _ = _
        rw [on1_eq, kev_eq]
        simp only [oConvert, h1, h2, Option.bind_eq_bind, Option.bind_some]
        cases ev st.tm x with
        | none => rfl
        | some v =>
          simp only [Option.bind_some, h3]
          cases v with
          | int j z =>
            cases z with
            | ofNat n =>
              change kval (mkW k n) st = _
              rw [kval_eq, mkW_eq]; simp [convV]
            | negSucc n =>
              change kval (mkI k (k.wrap (.negSucc n))) st = _
              rw [kval_eq, mkI_eq]; simp [convV, wrapI]
          | _ => cases s.d <;> rfl
      · rfl
    · rfl
  · rename_i f a b
    change kfn f ((kevs a.toList).run st.tm) ((kevs b.toList).run st.tm) st = _
    rw [kevs_eq, kevs_eq]
    simp only [opGo, oMakeFunc]
    cases evs st.tm a.toList with
    | none => rfl
    | some as => cases evs st.tm b.toList <;> rfl
  · rename_i s x f
    simp only [opGo, oFieldAddr]
    split
    · rename_i h
      cases ev st.tm x with
      | none => rfl
      | some v => cases v with
        | ptr a => cases a with
          | none => rfl
          | some p => obtain ⟨b, o⟩ := p; simp [fieldA, h, valR]
        | _ => rfl
    · rename_i tf off h
      split
      · rename_i h0
        cases ev st.tm x with
        | none => rfl
        | some v => cases v with
          | ptr a => cases a with
            | none => rfl
            | some p => obtain ⟨b, o⟩ := p; simp [fieldA, h, valR, h0]
          | _ => rfl
      · rename_i h0
        change onP _ _ _ = _
        rw [onP_eq, kev_eq]
        cases ev st.tm x with
        | none => rfl
        | some v => cases v with
          | ptr a => cases a with
            | none => rfl
            | some p => obtain ⟨b, o⟩ := p; simp [fieldA, h, valR, h0]
          | _ => rfl
  · rename_i t x i
    simp only [opGo]
    split
    · rename_i h
      simp only [oIndexAddr]
      cases ev st.tm x with
      | none => rfl
      | some v => cases ev st.tm i with
        | none => rfl
        | some i => cases i with
          | int k n => cases n with
            | ofNat n => simp [indexA, h, valR]
            | negSucc n => rfl
          | _ => rfl
    · rename_i ty h
      split
      · rename_i e hd
        split
        · rfl
        · rename_i te he
          change on2 _ _ _ _ = _
          rw [on2_eq, kev_eq, kev_eq]
          simp only [oIndexAddr, kixS_eq h hd he]
      · rename_i len e hd
        split
        · rfl
        · rename_i te he
          change on2 _ _ _ _ = _
          rw [on2_eq, kev_eq, kev_eq]
          simp only [oIndexAddr, kixA_eq h hd he]
      · rfl
  · rename_i x i
    change on1 _ _ _ = _
    rw [kev_eq]; exact kext_eq ..
  · exact kCallO_eq ..
  · rfl
end Go.Av

/- For the kernel: regions. -/
namespace Go.Av

structure KP where run : Cx → AV → St → Option St
noncomputable def ksetTm (d : Nat) (v : AV) (st : St) : Option St :=
  St.rec (motive := fun _ => Nat → AV → Option St) (fun tm df up hp d v => T.rec (motive := fun _ => List AD → Option Md → Heap → Option St) (fun df up hp => some ⟨.leaf, df, up, hp⟩) (fun l w r _ _ df up hp => some ⟨.node l w r, df, up, hp⟩) ((T.sOf d d).run tm v) df up hp) st d v
theorem ksetTm_eq (d : Nat) (v : AV) (st : St) : ksetTm d v st = some { st with tm := st.tm.set d v } := by
  obtain ⟨tm, df, up, hp⟩ := st
  change T.rec (motive := fun _ => List AD → Option Md → Heap → Option St) (fun df up hp => some ⟨.leaf, df, up, hp⟩) (fun l w r _ _ df up hp => some ⟨.node l w r, df, up, hp⟩) ((T.sOf d d).run tm v) df up hp = _
  rw [T.sOf_eq d d (Nat.le_refl _)]
  cases tm.set d v <;> rfl
noncomputable def kP (dst : Option Tmp) : KP :=
  match dst with
  | none => ⟨fun _ _ st => some st⟩
  | some d => ⟨fun cx v st => Bool.rec (motive := fun _ => AV → St → Option St) (fun _ _ => none) (fun v st => ksetTm d v st) (Nat.ble (Nat.succ d) cx.nt) v st⟩
theorem kP_eq (dst : Option Tmp) (cx : Cx) (v : AV) (st : St) : (kP dst).run cx v st = put cx dst v st := by
  cases dst with
  | none => rfl
  | some d =>
    change Bool.rec (motive := fun _ => AV → St → Option St) (fun _ _ => none) (fun v st => ksetTm d v st) (Nat.ble (Nat.succ d) cx.nt) v st = _
    rw [ble_dec]
    simp only [put]
    by_cases h : d < cx.nt
    · rw [decide_eq_true (Nat.succ_le_of_lt h), if_pos h]; exact ksetTm_eq ..
    · rw [decide_eq_false (fun hh => h (Nat.lt_of_succ_le hh)), if_neg h]
structure KW where run : T AV → Option Bool
noncomputable def kwB (v : Option AV) (want : Bool) : Option Bool := Option.rec (motive := fun _ => Bool → Option Bool) (fun _ => none) (fun v want => Option.rec (motive := fun _ => Bool → Option Bool) (fun _ => some false) (fun b want => some (b == want)) (vB v) want) v want
noncomputable def kwant (all : List Oper) (o : Oper) : KW :=
  match o.guard with
  | none => ⟨fun _ => some true⟩
  | some (j, want) => match all[j]? with
    | none => ⟨fun _ => none⟩
    | some g => match g.dst with
      | none => ⟨fun _ => none⟩
      | some d => ⟨fun tm => kwB ((T.gOf d d).run tm) want⟩
theorem kwant_eq (all : List Oper) (o : Oper) (tm : T AV) : (kwant all o).run tm = wantedV all o tm := by
  unfold kwant wantedV
  split
  · rename_i h; simp [h]
  · rename_i j want h
    simp only [h]
    split
    · rename_i h1; simp [h1]
    · rename_i g h1
      simp only [h1, Option.bind_eq_bind, Option.bind_some]
      split
      · rename_i h2; simp [h2]
      · rename_i d h2
        simp only [h2, Option.bind_some]
        change kwB ((T.gOf d d).run tm) want = _
        rw [T.gOf_eq d d (Nat.le_refl _)]
        cases tm.get d with
        | none => rfl
        | some v => cases v <;> rfl
/-- What is left, with the slot laid. -/
noncomputable def kvP (v : AV) (x : Option St) : Option OR := Option.rec (motive := fun _ => AV → Option OR) (fun _ => none) (fun s v => some (.val v s)) x v
noncomputable def kAfter (x : Option OR) (p : KP) (cx : Cx) : Option OR := Option.rec (motive := fun _ => KP → Cx → Option OR) (fun _ _ => none) (fun r p cx => OR.rec (motive := fun _ => KP → Cx → Option OR) (fun v s p cx => kvP v (p.run cx v s)) (fun c s _ _ => some (.pan c s)) r p cx) x p cx
noncomputable def kOne (E : Env) (all : List Oper) (o : Oper) : KO :=
  match o.guard with
  | none => ⟨fun R cx s => kAfter ((kOp E o.op).run R cx s) (kP o.dst) cx⟩
  | some _ => ⟨fun R cx s => Option.rec (motive := fun _ => KO → KP → Rec → Cx → St → Option OR) (fun _ _ _ _ _ => none) (fun b k p R cx s => Bool.rec (motive := fun _ => KO → KP → Rec → Cx → St → Option OR) (fun _ p _ cx s => kvP .undef (p.run cx .undef s)) (fun k p R cx s => kAfter (k.run R cx s) p cx) b k p R cx s) ((kwant all o).run s.tm) (kOp E o.op) (kP o.dst) R cx s⟩
theorem kOne_eq (E : Env) (R : Rec) (cx : Cx) (all : List Oper) (o : Oper) (s : St) : (kOne E all o).run R cx s = oneOp E R cx all o s := by
  have hA : kAfter ((kOp E o.op).run R cx s) (kP o.dst) cx = (do
      match ← opStep E R cx o s with
      | .val v s => (put cx o.dst v s).map fun s => .val v s
      | .pan c s => some (.pan c s)) := by
    rw [kOp_eq]
    unfold opStep
    cases opGo E R cx o.op s with
    | none => rfl
    | some q => cases q with
      | val v s =>
        change kvP v ((kP o.dst).run cx v s) = _
        rw [kP_eq]
        simp only [Option.bind_eq_bind, Option.bind_some]
        cases put cx o.dst v s <;> rfl
      | pan c s => rfl
  unfold kOne
  split
  · rename_i h
    have hw : wantedV all o s.tm = some true := by unfold wantedV; rw [h]
    simp only [oneOp, hw, Option.bind_eq_bind, Option.bind_some, if_true]
    exact hA
  · change Option.rec (motive := fun _ => KO → KP → Rec → Cx → St → Option OR) (fun _ _ _ _ _ => none) (fun b k p R cx s => Bool.rec (motive := fun _ => KO → KP → Rec → Cx → St → Option OR) (fun _ p _ cx s => kvP .undef (p.run cx .undef s)) (fun k p R cx s => kAfter (k.run R cx s) p cx) b k p R cx s) ((kwant all o).run s.tm) (kOp E o.op) (kP o.dst) R cx s = _
    rw [kwant_eq]
    unfold oneOp
    cases wantedV all o s.tm with
    | none => rfl
    | some b => cases b with
      | true => exact hA
      | false =>
        change kvP .undef ((kP o.dst).run cx .undef s) = _
        rw [kP_eq]
        simp only [Option.bind_eq_bind, Option.bind_some, Bool.false_eq_true, if_false]
        cases put cx o.dst .undef s <;> rfl

structure KC where run : Rec → Cx → St → Option (Ex × St)
noncomputable def kSeq1 (x : Option OR) (R : Rec) (cx : Cx) (rest : KC) : Option (Ex × St) := Option.rec (motive := fun _ => Rec → Cx → KC → Option (Ex × St)) (fun _ _ _ => none) (fun r R cx rest => OR.rec (motive := fun _ => Rec → Cx → KC → Option (Ex × St)) (fun _ s R cx rest => rest.run R cx s) (fun c s _ _ _ => some (.panic c, s)) r R cx rest) x R cx rest
noncomputable def kOps (E : Env) (all : List Oper) : List Oper → KC
  | [] => ⟨fun _ _ s => some (.normal, s)⟩
  | o :: os => ⟨fun R cx s => kSeq1 ((kOne E all o).run R cx s) R cx (kOps E all os)⟩
theorem kOps_eq (E : Env) (R : Rec) (cx : Cx) (all : List Oper) : ∀ (os : List Oper) (s : St), (kOps E all os).run R cx s = opsRun E R cx all os s
  | [], _ => rfl
  | o :: os, s => by
    change kSeq1 ((kOne E all o).run R cx s) R cx (kOps E all os) = _
    rw [kOne_eq, opsRun]
    cases oneOp E R cx all o s with
    | none => rfl
    | some q => cases q with
      | val v s => exact kOps_eq E R cx all os s
      | pan c s => rfl
end Go.Av

/- For the kernel: regions that draw their order. -/
namespace Go.Av

/-! ### Blocks below a number -/
noncomputable def kbelP (k : Nat) (a : Option (Nat × Nat)) : Bool := Option.rec (motive := fun _ => Nat → Bool) (fun _ => true) (fun p k => Prod.rec (motive := fun _ => Nat → Bool) (fun b _ k => Nat.ble (Nat.succ b) k) p k) a k
/-- What has no parts; of all else the slow way. -/
noncomputable def kbelF (s : AV → Bool) (k : Nat) (v : AV) : Bool :=
  AV.rec (motive_1 := fun _ => (AV → Bool) → Nat → Bool) (motive_2 := fun _ => Unit) (fun _ _ => true) (fun _ _ _ => true) (fun _ _ _ _ => true) (fun _ _ _ => true) (fun a _ k => kbelP k a) (fun a _ _ _ k => kbelP k a) (fun r s _ => s (.map r)) (fun f a b _ _ s _ => s (.func f a b)) (fun l s _ => s (.yield l)) (fun _ _ => true) (fun t x _ s _ => s (.iface t x)) (fun _ _ => true) (fun c _ s _ => s (.agg c)) (fun c _ s _ => s (.tuple c)) () (fun _ _ _ _ => ()) v s k
theorem kbelF_eq (d k : Nat) (v : AV) : kbelF (below (d + 1) k) k v = below (d + 1) k v := by
  have hp : ∀ p : Nat × Nat, Nat.ble (Nat.succ p.1) k = decide (p.1 < k) := fun p => ble_dec _ _
  cases v with
  | ptr a => cases a with
    | none => rfl
    | some p => exact hp p
  | slice a l c => cases a with
    | none => rfl
    | some p => exact hp p
  | _ => rfl
noncomputable def kbelL (s : AV → Bool) (k : Nat) (cs : List AV) : Bool := List.rec (motive := fun _ => (AV → Bool) → Nat → Bool) (fun _ _ => true) (fun x _ ih s k => Bool.rec (motive := fun _ => ((AV → Bool) → Nat → Bool) → (AV → Bool) → Nat → Bool) (fun _ _ _ => false) (fun ih s k => ih s k) (kbelF s k x) ih s k) cs s k
theorem kbelL_eq (d k : Nat) (cs : List AV) : kbelL (below (d + 1) k) k cs = cs.all (below (d + 1) k) := by
  induction cs with
  | nil => rfl
  | cons x cs ih =>
    change Bool.rec (motive := fun _ => ((AV → Bool) → Nat → Bool) → (AV → Bool) → Nat → Bool) (fun _ _ _ => false) (fun ih s k => ih s k) (kbelF (below (d + 1) k) k x) (fun s k => kbelL s k cs) (below (d + 1) k) k = _
    rw [kbelF_eq, List.all_cons, ← ih]
    cases below (d + 1) k x <;> rfl
noncomputable def kbel (k : Nat) (v : AV) : Bool :=
  AV.rec (motive_1 := fun _ => Nat → Bool) (motive_2 := fun _ => Unit) (fun _ => true) (fun _ _ => true) (fun _ _ _ => true) (fun _ _ => true) (fun a k => kbelP k a) (fun a _ _ k => kbelP k a) (fun r k => below 9 k (.map r)) (fun f a b _ _ k => below 9 k (.func f a b)) (fun l k => below 9 k (.yield l)) (fun _ => true) (fun t x _ k => below 9 k (.iface t x)) (fun _ => true) (fun c _ k => kbelL (below 8 k) k c) (fun c _ k => kbelL (below 8 k) k c) () (fun _ _ _ _ => ()) v k
theorem kbel_eq (k : Nat) (v : AV) : kbel k v = below 9 k v := by
  have h : kbelF (below 9 k) k v = below 9 k v := kbelF_eq 8 k v
  cases v with
  | agg c => exact kbelL_eq 7 k c
  | tuple c => exact kbelL_eq 7 k c
  | _ => exact h

/-! ### Equal, to the last part -/
noncomputable def kieq (a b : Int) : Bool := Int.rec (motive := fun _ => Int → Bool) (fun m b => Int.rec (motive := fun _ => Nat → Bool) (fun n m => Nat.beq m n) (fun _ _ => false) b m) (fun m b => Int.rec (motive := fun _ => Nat → Bool) (fun _ _ => false) (fun n m => Nat.beq m n) b m) a b
theorem kieq_eq (a b : Int) : kieq a b = (a == b) := by
  have key : ∀ {p : Prop} [Decidable p], decide p = (a == b) ↔ (p ↔ a = b) := by
    intro p _
    rw [Bool.eq_iff_iff]; simp
  cases a with
  | ofNat m => cases b with
    | ofNat n => exact (beq_dec m n).trans (key.2 (by simp; omega))
    | negSucc n => exact (decide_eq_false (p := False) id).symm.trans (key.2 (by simp))
  | negSucc m => cases b with
    | ofNat n => exact (decide_eq_false (p := False) id).symm.trans (key.2 (by simp))
    | negSucc n => exact (beq_dec m n).trans (key.2 (by simp))
noncomputable def keqF (s : AV → AV → Bool) (x y : AV) : Bool :=
  AV.rec (motive_1 := fun _ => (AV → AV → Bool) → AV → Bool) (motive_2 := fun _ => Unit) (fun s y => s .undef y) (fun b s y => s (.bool b) y)
    (fun k n s y => Option.rec (motive := fun _ => IntKind → Int → (AV → AV → Bool) → AV → Bool) (fun k n s y => s (.int k n) y) (fun p k n _ _ => Prod.rec (motive := fun _ => IntKind → Int → Bool) (fun j m k n => Bool.rec (motive := fun _ => Int → Int → Bool) (fun _ _ => false) (fun n m => kieq n m) (Nat.beq (kix k) (kix j)) n m) p k n) (vI y) k n s y)
    (fun t s y => s (.str t) y) (fun a s y => s (.ptr a) y) (fun a l c s y => s (.slice a l c) y) (fun r s y => s (.map r) y) (fun f a b _ _ s y => s (.func f a b) y) (fun l s y => s (.yield l) y) (fun s y => s .nilFunc y) (fun t x _ s y => s (.iface t x) y) (fun s y => s .nilIface y) (fun c _ s y => s (.agg c) y) (fun c _ s y => s (.tuple c) y) () (fun _ _ _ _ => ()) x s y
theorem keqF_eq (d : Nat) (x y : AV) : keqF (eqAV (d + 1)) x y = eqAV (d + 1) x y := by
  cases x with
  | int k n => cases y with
    | int j m =>
      change Bool.rec (motive := fun _ => Int → Int → Bool) (fun _ _ => false) (fun n m => kieq n m) (Nat.beq (kix k) (kix j)) n m = _
      rw [kix_eq]
      simp only [eqAV]
      by_cases h : k = j
      · rw [decide_eq_true h, Bool.true_and]; exact kieq_eq n m
      · rw [decide_eq_false h]; rfl
    | _ => rfl
  | _ => rfl
noncomputable def keqL (s : AV → AV → Bool) (xs ys : List AV) : Bool := List.rec (motive := fun _ => (AV → AV → Bool) → List AV → Bool) (fun _ ys => List.rec (motive := fun _ => Bool) true (fun _ _ _ => false) ys)
  (fun x _ ih s ys => List.rec (motive := fun _ => AV → ((AV → AV → Bool) → List AV → Bool) → (AV → AV → Bool) → Bool) (fun _ _ _ => false) (fun y ys _ x ih s => Bool.rec (motive := fun _ => ((AV → AV → Bool) → List AV → Bool) → (AV → AV → Bool) → List AV → Bool) (fun _ _ _ => false) (fun ih s ys => ih s ys) (keqF s x y) ih s ys) ys x ih s) xs s ys
theorem keqL_eq (d : Nat) (xs ys : List AV) : keqL (eqAV (d + 1)) xs ys = eqAV.eqs (eqAV (d + 1)) xs ys := by
  induction xs generalizing ys with
  | nil => cases ys <;> rfl
  | cons x xs ih => cases ys with
    | nil => rfl
    | cons y ys =>
      change Bool.rec (motive := fun _ => ((AV → AV → Bool) → List AV → Bool) → (AV → AV → Bool) → List AV → Bool) (fun _ _ _ => false) (fun ih s ys => ih s ys) (keqF (eqAV (d + 1)) x y) (fun s ys => keqL s xs ys) (eqAV (d + 1)) ys = _
      rw [keqF_eq, eqAV.eqs, ← ih]
      cases eqAV (d + 1) x y <;> rfl
noncomputable def vAgg (v : AV) : Option (List AV) := AV.rec (motive_1 := fun _ => Option (List AV)) (motive_2 := fun _ => Unit) none (fun _ => none) (fun _ _ => none) (fun _ => none) (fun _ => none) (fun _ _ _ => none) (fun _ => none) (fun _ _ _ _ _ => none) (fun _ => none) none (fun _ _ _ => none) none (fun c _ => some c) (fun _ _ => none) () (fun _ _ _ _ => ()) v
noncomputable def keq (x y : AV) : Bool :=
  Option.rec (motive := fun _ => AV → AV → Bool) (fun x y => keqF (eqAV 9) x y) (fun c x y => Option.rec (motive := fun _ => List AV → AV → AV → Bool) (fun _ x y => eqAV 9 x y) (fun e c _ _ => keqL (eqAV 8) c e) (vAgg y) c x y) (vAgg x) x y
theorem keq_eq (x y : AV) : keq x y = eqAV 9 x y := by
  have h : keqF (eqAV 9) x y = eqAV 9 x y := keqF_eq 8 x y
  cases x with
  | agg c => cases y with
    | agg e => exact keqL_eq 7 c e
    | _ => rfl
  | _ => exact h

/-! ### The trace -/
structure KD where run : Rec → Cx → St → Option (List Tr × Ex × St)
noncomputable def kD2 (y : Option (List Tr × Ex × St)) (o : Oper) (s : St) (v : AV) : Option (List Tr × Ex × St) :=
  Option.rec (motive := fun _ => Oper → St → AV → Option (List Tr × Ex × St)) (fun _ _ _ => none) (fun p o s v => Prod.rec (motive := fun _ => Oper → St → AV → Option (List Tr × Ex × St)) (fun l q o s v => some (⟨o, s, v⟩ :: l, q)) p o s v) y o s v
noncomputable def kD1 (E : Env) (all : List Oper) (x : Option OR) (o : Oper) (s : St) (R : Rec) (cx : Cx) (rest : KD) : Option (List Tr × Ex × St) :=
  Option.rec (motive := fun _ => Env → List Oper → Oper → St → Rec → Cx → KD → Option (List Tr × Ex × St)) (fun _ _ _ _ _ _ _ => none)
    (fun q E all o s R cx rest => OR.rec (motive := fun _ => Env → List Oper → Oper → St → Rec → Cx → KD → Option (List Tr × Ex × St))
      (fun v s' _ _ o s R cx rest => Bool.rec (motive := fun _ => AV → St → Oper → St → Rec → Cx → KD → Option (List Tr × Ex × St)) (fun _ _ _ _ _ _ _ => none)
        (fun v s' o s R cx rest => Bool.rec (motive := fun _ => AV → St → Oper → St → Rec → Cx → KD → Option (List Tr × Ex × St)) (fun _ _ _ _ _ _ _ => none) (fun v s' o s R cx rest => kD2 (rest.run R cx s') o s v) (Nat.ble s.hp.next s'.hp.next) v s' o s R cx rest) (kbel s'.hp.next v) v s' o s R cx rest)
      (fun c s' E all o s _ _ _ => if kindOf E o.op = .act then some ([⟨o, s, .undef⟩], .panic c, { s' with tm := s'.tm.dels (dsts all) }) else none) q E all o s R cx rest) x E all o s R cx rest
noncomputable def kDrawOps (E : Env) (all : List Oper) : List Oper → KD
  | [] => ⟨fun _ _ s => some ([], .normal, s)⟩
  | o :: os => ⟨fun R cx s => kD1 E all ((kOne E all o).run R cx s) o s R cx (kDrawOps E all os)⟩
theorem kDrawOps_eq (E : Env) (R : Rec) (cx : Cx) (all : List Oper) : ∀ (os : List Oper) (s : St), (kDrawOps E all os).run R cx s = drawRun E R cx all os s
  | [], _ => rfl
  | o :: os, s => by
    change kD1 E all ((kOne E all o).run R cx s) o s R cx (kDrawOps E all os) = _
    rw [kOne_eq, drawRun]
    cases oneOp E R cx all o s with
    | none => rfl
    | some q => cases q with
      | pan c s' => rfl
      | val v s' =>
        change Bool.rec (motive := fun _ => AV → St → Oper → St → Rec → Cx → KD → Option (List Tr × Ex × St)) (fun _ _ _ _ _ _ _ => none)
          (fun v s' o s R cx rest => Bool.rec (motive := fun _ => AV → St → Oper → St → Rec → Cx → KD → Option (List Tr × Ex × St)) (fun _ _ _ _ _ _ _ => none) (fun v s' o s R cx rest => kD2 (rest.run R cx s') o s v) (Nat.ble s.hp.next s'.hp.next) v s' o s R cx rest) (kbel s'.hp.next v) v s' o s R cx (kDrawOps E all os) = _
        rw [kbel_eq]
        simp only [Option.bind_eq_bind, Option.bind_some]
        cases hb : below 9 s'.hp.next v with
        | false => simp
        | true =>
          change Bool.rec (motive := fun _ => AV → St → Oper → St → Rec → Cx → KD → Option (List Tr × Ex × St)) (fun _ _ _ _ _ _ _ => none) (fun v s' o s R cx rest => kD2 (rest.run R cx s') o s v) (Nat.ble s.hp.next s'.hp.next) v s' o s R cx (kDrawOps E all os) = _
          rw [ble_dec]
          by_cases hn : s.hp.next ≤ s'.hp.next
          · rw [decide_eq_true hn, if_pos ⟨rfl, hn⟩]
            change kD2 ((kDrawOps E all os).run R cx s') o s v = _
            rw [kDrawOps_eq E R cx all os s']
            cases drawRun E R cx all os s' with
            | none => rfl
            | some p => rfl
          · rw [decide_eq_false hn, if_neg (fun h => hn h.2)]

/-! ### What is looked at is the same -/
def isAct (E : Env) (all : List Oper) (p : Nat) : Bool := match all[p]? with | some o => decide (kindOf E o.op = .act) | none => false
/-- The places where the i-th operation's looks are asked. -/
noncomputable def kpts (E : Env) (all : List Oper) (bs : List Nat) (i : Nat) : List Nat :=
  ((List.range all.length).filter (isAct E all) ++ [all.length]).filter fun p => !((List.range all.length).filter (isAct E all)).any fun e => (ahead bs e i && decide (p ≤ e)) || (ahead bs i e && decide (e < p))
theorem stables_pts (E : Env) (R : Rec) (cx : Cx) (all : List Oper) (bs : List Nat) (tr : List Tr) (last : Heap) (i : Nat) (x : Tr) (hl : tr.length = all.length) :
    stables E R cx all bs tr last i x = (kpts E all bs i).all fun p => stableAt E R cx x (match tr[p]? with | some y => y.s.hp | none => last) := by
  have hs : stables E R cx all bs tr last i x = (List.range (tr.length + 1)).all fun p => (decide (p < tr.length) && !isAct E all p) || (List.range all.length).any (fun e => isAct E all e && ((ahead bs e i && decide (p ≤ e)) || (ahead bs i e && decide (e < p)))) ||
      stableAt E R cx x (match tr[p]? with | some y => y.s.hp | none => last) := rfl
  have hB : ∀ p, ((List.range all.length).any fun e => isAct E all e && ((ahead bs e i && decide (p ≤ e)) || (ahead bs i e && decide (e < p)))) =
      ((List.range all.length).filter (isAct E all)).any fun e => (ahead bs e i && decide (p ≤ e)) || (ahead bs i e && decide (e < p)) := by
    intro p
    rw [List.any_filter]
  rw [hs]
  unfold kpts
  rw [Bool.eq_iff_iff, List.all_eq_true, List.all_eq_true]
  simp only [List.mem_filter, List.mem_append, List.mem_range, List.mem_singleton, hB, hl, Bool.or_eq_true, Bool.and_eq_true, Bool.not_eq_true', decide_eq_true_eq]
  constructor
  · rintro h p ⟨hp, hn⟩
    rcases h p (by rcases hp with h | h <;> omega) with (⟨h1, h2⟩ | h1) | h1
    · exfalso
      rcases hp with hp | hp
      · rw [h2] at hp; exact absurd hp.2 (by simp)
      · omega
    · rw [hn] at h1; cases h1
    · exact h1
  · intro h p hp
    cases hn : ((List.range all.length).filter (isAct E all)).any fun e => (ahead bs e i && decide (p ≤ e)) || (ahead bs i e && decide (e < p)) with
    | true => exact .inl (.inr rfl)
    | false =>
      by_cases hpn : p = all.length
      · exact .inr (h p ⟨.inr hpn, hn⟩)
      · by_cases ha : isAct E all p = true
        · exact .inr (h p ⟨.inl ⟨by omega, ha⟩, hn⟩)
        · exact .inl (.inl ⟨by omega, by simpa using ha⟩)
/-- A heap of the trace. -/
noncomputable def khp (tr : List Tr) (last : Heap) (p : Nat) : Heap := List.rec (motive := fun _ => Heap → Nat → Heap) (fun last _ => last) (fun x _ ih last p => Nat.rec (motive := fun _ => Tr → (Heap → Nat → Heap) → Heap → Heap) (fun x _ _ => x.s.hp) (fun q _ _ ih last => ih last q) p x ih last) tr last p
theorem khp_eq (tr : List Tr) (last : Heap) (p : Nat) : khp tr last p = match tr[p]? with | some y => y.s.hp | none => last := by
  induction tr generalizing p with
  | nil => rfl
  | cons x tr ih => cases p with
    | zero => rfl
    | succ p => exact (ih p).trans (by simp)
noncomputable def kst1 (v : AV) (q : Option OR) : Bool := Option.rec (motive := fun _ => AV → Bool) (fun _ => false) (fun q v => OR.rec (motive := fun _ => AV → Bool) (fun u _ v => keq u v) (fun _ _ _ => false) q v) q v
noncomputable def kst2 (tm : T AV) (df : List AD) (up : Option Md) (h : Heap) : St := ⟨tm, df, up, h⟩
noncomputable def kstab (k : KO) (R : Rec) (cx : Cx) (tr : List Tr) (last : Heap) (x : Tr) (ps : List Nat) : Bool :=
  List.rec (motive := fun _ => KO → Rec → Cx → List Tr → Heap → Tr → Bool) (fun _ _ _ _ _ _ => true)
    (fun p _ ih k R cx tr last x => Bool.rec (motive := fun _ => (KO → Rec → Cx → List Tr → Heap → Tr → Bool) → KO → Rec → Cx → List Tr → Heap → Tr → Bool) (fun _ _ _ _ _ _ _ => false) (fun ih k R cx tr last x => ih k R cx tr last x)
      (kst1 x.v (k.run R cx ⟨x.s.tm, x.s.df, x.s.up, khp tr last p⟩)) ih k R cx tr last x) ps k R cx tr last x
theorem kstab_eq (E : Env) (R : Rec) (cx : Cx) (tr : List Tr) (last : Heap) (x : Tr) (ps : List Nat) : kstab (kOp E x.o.op) R cx tr last x ps = ps.all fun p => stableAt E R cx x (match tr[p]? with | some y => y.s.hp | none => last) := by
  induction ps with
  | nil => rfl
  | cons p ps ih =>
    change Bool.rec (motive := fun _ => (KO → Rec → Cx → List Tr → Heap → Tr → Bool) → KO → Rec → Cx → List Tr → Heap → Tr → Bool) (fun _ _ _ _ _ _ _ => false) (fun ih k R cx tr last x => ih k R cx tr last x)
      (kst1 x.v ((kOp E x.o.op).run R cx ⟨x.s.tm, x.s.df, x.s.up, khp tr last p⟩)) (fun k R cx tr last x => kstab k R cx tr last x ps) (kOp E x.o.op) R cx tr last x = _
    have h1 : kst1 x.v ((kOp E x.o.op).run R cx ⟨x.s.tm, x.s.df, x.s.up, khp tr last p⟩) = stableAt E R cx x (match tr[p]? with | some y => y.s.hp | none => last) := by
      rw [kOp_eq, khp_eq]
      unfold stableAt opStep
      cases opGo E R cx x.o.op ⟨x.s.tm, x.s.df, x.s.up, match tr[p]? with | some y => y.s.hp | none => last⟩ with
      | none => rfl
      | some q => cases q with
        | val u s => exact keq_eq ..
        | pan c s => rfl
    rw [List.all_cons, ← ih, h1]
    cases stableAt E R cx x (match tr[p]? with | some y => y.s.hp | none => last) <;> rfl
/-- All looks. -/
structure KX where run : Rec → Cx → List Tr → Heap → List Tr → Bool
noncomputable def kX1 (w : KW) (k : KO) (ps : List Nat) (R : Rec) (cx : Cx) (tr : List Tr) (last : Heap) (x : Tr) : Bool :=
  Option.rec (motive := fun _ => KO → List Nat → Rec → Cx → List Tr → Heap → Tr → Bool) (fun _ _ _ _ _ _ _ => true) (fun b k ps R cx tr last x => Bool.rec (motive := fun _ => KO → List Nat → Rec → Cx → List Tr → Heap → Tr → Bool) (fun _ _ _ _ _ _ _ => true) (fun k ps R cx tr last x => kstab k R cx tr last x ps) b k ps R cx tr last x) (w.run x.s.tm) k ps R cx tr last x
noncomputable def kX2 (c : Tr → Bool) (rest : KX) (R : Rec) (cx : Cx) (tr : List Tr) (last : Heap) (l : List Tr) : Bool :=
  List.rec (motive := fun _ => (Tr → Bool) → KX → Rec → Cx → List Tr → Heap → Bool) (fun _ _ _ _ _ _ => true) (fun x l _ c rest R cx tr last => Bool.rec (motive := fun _ => KX → Rec → Cx → List Tr → Heap → List Tr → Bool) (fun _ _ _ _ _ _ => false) (fun rest R cx tr last l => rest.run R cx tr last l) (c x) rest R cx tr last l) l c rest R cx tr last
noncomputable def kX3 (rest : KX) (R : Rec) (cx : Cx) (tr : List Tr) (last : Heap) (l : List Tr) : Bool := List.rec (motive := fun _ => KX → Rec → Cx → List Tr → Heap → Bool) (fun _ _ _ _ _ => true) (fun _ l _ rest R cx tr last => rest.run R cx tr last l) l rest R cx tr last
noncomputable def kXs (E : Env) (all : List Oper) (bs : List Nat) : List Oper → Nat → KX
  | [], _ => ⟨fun _ _ _ _ _ => true⟩
  | o :: os, i => if kindOf E o.op = .look then ⟨fun R cx tr last l => kX2 (fun x => kX1 (kwant all o) (kOp E o.op) (kpts E all bs i) R cx tr last x) (kXs E all bs os (i + 1)) R cx tr last l⟩
    else ⟨fun R cx tr last l => kX3 (kXs E all bs os (i + 1)) R cx tr last l⟩
theorem kXs_eq (E : Env) (R : Rec) (cx : Cx) (all : List Oper) (bs : List Nat) (tr : List Tr) (last : Heap) (hl : tr.length = all.length) : ∀ (os : List Oper) (i : Nat) (l : List Tr), (∀ (k : Nat) (x : Tr), l[k]? = some x → os[k]? = some x.o) →
    (kXs E all bs os i).run R cx tr last l = (l.zipIdx i).all fun (x, i) => decide (kindOf E x.o.op ≠ .look) || decide (wantedV all x.o x.s.tm ≠ some true) || stables E R cx all bs tr last i x
  | [], i, l, h => by
    cases l with
    | nil => rfl
    | cons x l => have := h 0 x rfl; simp at this
  | o :: os, i, l, h => by
    have ih := fun l' h' => kXs_eq E R cx all bs tr last hl os (i + 1) l' h'
    cases l with
    | nil =>
      unfold kXs
      split <;> rfl
    | cons x l =>
      have hx : x.o = o := by have := h 0 x rfl; simpa using this.symm
      have h' : ∀ (k : Nat) (y : Tr), l[k]? = some y → os[k]? = some y.o := fun k y hy => by have := h (k + 1) y (by simpa using hy); simpa using this
      rw [List.zipIdx_cons, List.all_cons, ← ih l h']
      change _ = ((decide (kindOf E x.o.op ≠ .look) || decide (wantedV all x.o x.s.tm ≠ some true) || stables E R cx all bs tr last i x) && (kXs E all bs os (i + 1)).run R cx tr last l)
      rw [kXs]
      split
      · rename_i hk
        change Bool.rec (motive := fun _ => KX → Rec → Cx → List Tr → Heap → List Tr → Bool) (fun _ _ _ _ _ _ => false) (fun rest R cx tr last l => rest.run R cx tr last l) (kX1 (kwant all o) (kOp E o.op) (kpts E all bs i) R cx tr last x) (kXs E all bs os (i + 1)) R cx tr last l = _
        have h1 : kX1 (kwant all o) (kOp E o.op) (kpts E all bs i) R cx tr last x = (decide (kindOf E x.o.op ≠ .look) || decide (wantedV all x.o x.s.tm ≠ some true) || stables E R cx all bs tr last i x) := by
          subst hx
          simp only [hk, ne_eq, not_true_eq_false, decide_false, Bool.false_or]
          unfold kX1
          rw [kwant_eq]
          cases hw : wantedV all x.o x.s.tm with
          | none => simp
          | some b => cases b with
            | false => simp
            | true =>
              change kstab (kOp E x.o.op) R cx tr last x (kpts E all bs i) = _
              rw [kstab_eq, stables_pts E R cx all bs tr last i x hl]
              simp
        rw [h1]
        cases (decide (kindOf E x.o.op ≠ .look) || decide (wantedV all x.o x.s.tm ≠ some true) || stables E R cx all bs tr last i x) <;> rfl
      · rename_i hk
        rw [hx]
        have : decide (kindOf E o.op ≠ .look) = true := by simpa using hk
        rw [this, Bool.true_or, Bool.true_or, Bool.true_and]
        rfl
noncomputable def kDraw (E : Env) (all : List Oper) : KC := ⟨fun R cx s =>
  Option.rec (motive := fun _ => Env → List Oper → Rec → Cx → St → Option (Ex × St)) (fun _ _ _ _ _ => none) (fun p E all R cx s => Prod.rec (motive := fun _ => Env → List Oper → Rec → Cx → St → Option (Ex × St)) (fun tr q E all R cx s => Prod.rec (motive := fun _ => List Tr → Env → List Oper → Rec → Cx → St → Option (Ex × St))
    (fun ex s' tr E all R cx s => Bool.rec (motive := fun _ => Ex → St → List Tr → Env → List Oper → Rec → Cx → St → Option (Ex × St)) (fun _ _ _ E all R cx s => drawV E R cx all s)
      (fun ex s' tr E all R cx _ => Bool.rec (motive := fun _ => Ex → St → List Tr → Env → List Oper → Rec → Cx → Option (Ex × St)) (fun _ _ _ _ _ _ _ => none)
        (fun ex s' tr E all R cx => Bool.rec (motive := fun _ => Ex → St → Option (Ex × St)) (fun _ _ => none) (fun ex s' => some (ex, s')) ((kXs E all (aheads all []) all 0).run R cx tr s'.hp tr) ex s') (fine E all) ex s' tr E all R cx)
      (Nat.beq (klen tr) (klen all)) ex s' tr E all R cx s) q tr E all R cx s) p E all R cx s) ((kDrawOps E all all).run R cx s) E all R cx s⟩
theorem kDraw_eq (E : Env) (R : Rec) (cx : Cx) (all : List Oper) (s : St) : (kDraw E all).run R cx s = drawV E R cx all s := by
  unfold kDraw
  simp only
  rw [kDrawOps_eq]
  cases hd : drawRun E R cx all all s with
  | none => simp [drawV, hd]
  | some p =>
    obtain ⟨tr, ex, s'⟩ := p
    change Bool.rec (motive := fun _ => Ex → St → List Tr → Env → List Oper → Rec → Cx → St → Option (Ex × St)) (fun _ _ _ E all R cx s => drawV E R cx all s)
      (fun ex s' tr E all R cx _ => Bool.rec (motive := fun _ => Ex → St → List Tr → Env → List Oper → Rec → Cx → Option (Ex × St)) (fun _ _ _ _ _ _ _ => none)
        (fun ex s' tr E all R cx => Bool.rec (motive := fun _ => Ex → St → Option (Ex × St)) (fun _ _ => none) (fun ex s' => some (ex, s')) ((kXs E all (aheads all []) all 0).run R cx tr s'.hp tr) ex s') (fine E all) ex s' tr E all R cx)
      (Nat.beq (klen tr) (klen all)) ex s' tr E all R cx s = _
    rw [klen_eq, klen_eq, beq_dec]
    by_cases hl : tr.length = all.length
    · rw [decide_eq_true hl]
      obtain ⟨_, _, hops, _⟩ := drawRun_spec _ _ _ _ _ hd
      have hX := kXs_eq E R cx all (aheads all []) tr s'.hp hl all 0 tr hops
      change Bool.rec (motive := fun _ => Ex → St → List Tr → Env → List Oper → Rec → Cx → Option (Ex × St)) (fun _ _ _ _ _ _ _ => none)
        (fun ex s' tr E all R cx => Bool.rec (motive := fun _ => Ex → St → Option (Ex × St)) (fun _ _ => none) (fun ex s' => some (ex, s')) ((kXs E all (aheads all []) all 0).run R cx tr s'.hp tr) ex s') (fine E all) ex s' tr E all R cx = _
      simp only [drawV, hd, Option.bind_eq_bind, Option.bind_some]
      cases hf : fine E all with
      | false => simp
      | true =>
        change Bool.rec (motive := fun _ => Ex → St → Option (Ex × St)) (fun _ _ => none) (fun ex s' => some (ex, s')) ((kXs E all (aheads all []) all 0).run R cx tr s'.hp tr) ex s' = _
        rw [hX]
        cases hc : (tr.zipIdx.all fun (x, i) => decide (kindOf E x.o.op ≠ .look) || decide (wantedV all x.o x.s.tm ≠ some true) || stables E R cx all (aheads all []) tr s'.hp i x) with
        | false => rw [if_neg (by rintro ⟨_, h, _⟩; exact absurd h (by simp))]
        | true => rw [if_pos ⟨rfl, rfl, .inl hl⟩]
    · rw [decide_eq_false hl]
end Go.Av

/- For the kernel: the operations that leave all as it is, in one go with their slot. -/
namespace Go.Av

structure KV where run : T AV → Heap → Option AV
noncomputable def pP (x : Option AV) : Option (Nat × Nat) := Option.rec (motive := fun _ => Option (Nat × Nat)) none (fun v => vP v) x
noncomputable def pLoad (l : KL) (p : Option (Nat × Nat)) (h : Heap) : Option AV := Option.rec (motive := fun _ => KL → Heap → Option AV) (fun _ _ => none) (fun p l h => Prod.rec (motive := fun _ => KL → Heap → Option AV) (fun b o l h => l.run h b o) p l h) p l h
noncomputable def pField (off : Nat) (p : Option (Nat × Nat)) : Option AV := Option.rec (motive := fun _ => Nat → Option AV) (fun _ => none) (fun p off => Prod.rec (motive := fun _ => Nat → Option AV) (fun b o off => some (.ptr (some (b, Nat.add o off)))) p off) p off
noncomputable def pNil (x : Option AV) : Option AV := Option.rec (motive := fun _ => Option AV) none (fun v => AV.rec (motive_1 := fun _ => Option AV) (motive_2 := fun _ => Unit) none (fun _ => none) (fun _ _ => none) (fun _ => none)
    (fun a => Option.rec (motive := fun _ => Option AV) none (fun p => some (.ptr (some p))) a) (fun _ _ _ => none) (fun _ => none) (fun f a b _ _ => some (.func f a b)) (fun _ => none) none (fun _ _ _ => none) none (fun _ _ => none) (fun _ _ => none) () (fun _ _ _ _ => ()) v) x
noncomputable def pBin (f : KI) (s : AV → AV → Option AV) (x y : Option AV) : Option AV :=
  Option.rec (motive := fun _ => Option AV → KI → (AV → AV → Option AV) → Option AV) (fun _ _ _ => none) (fun a y f s => Option.rec (motive := fun _ => AV → KI → (AV → AV → Option AV) → Option AV) (fun _ _ _ => none)
    (fun b a f s => Option.rec (motive := fun _ => KI → (AV → AV → Option AV) → AV → AV → Option AV) (fun _ s a b => frc (s a b))
    (fun p f s a b => Option.rec (motive := fun _ => IntKind × Int → KI → (AV → AV → Option AV) → AV → AV → Option AV) (fun _ _ s a b => frc (s a b))
      (fun q p f s a b => Prod.rec (motive := fun _ => IntKind × Int → KI → (AV → AV → Option AV) → AV → AV → Option AV) (fun k m q f s a b => Prod.rec (motive := fun _ => IntKind → Int → KI → (AV → AV → Option AV) → AV → AV → Option AV)
        (fun j n k m f s a b => Bool.rec (motive := fun _ => KI → IntKind → Int → Int → (AV → AV → Option AV) → AV → AV → Option AV) (fun _ _ _ _ s a b => frc (s a b)) (fun f k m n _ _ _ => f.run k m n) (Nat.beq (kix k) (kix j)) f k m n s a b) q k m f s a b) p q f s a b) (vI b) p f s a b) (vI a) f s a b) y a f s) x y f s
theorem pBin_eq (f : KI) (s : AV → AV → Option AV) (x y : Option AV) (h : ∀ k m n, f.run k m n = s (.int k m) (.int k n)) : pBin f s x y = (do let a ← x; let b ← y; s a b) := by
  cases x with
  | none => rfl
  | some a => cases y with
    | none => rfl
    | some b =>
      have slow : frc (s a b) = s a b := frc_eq _
      cases a with
      | int k m =>
        cases b with
        | int j n =>
          change Bool.rec (motive := fun _ => KI → IntKind → Int → Int → (AV → AV → Option AV) → AV → AV → Option AV) (fun _ _ _ _ s a b => frc (s a b)) (fun f k m n _ _ _ => f.run k m n) (Nat.beq (kix k) (kix j)) f k m n s (.int k m) (.int j n) = _
          rw [kix_eq]
          by_cases e : k = j
          · subst e
            rw [decide_eq_true rfl]
            exact h k m n
          · rw [decide_eq_false e]; exact slow
        | _ => exact slow
      | _ => exact slow
noncomputable def pStr (neg : Bool) (_s : AV → AV → Option AV) (x y : Option AV) (r : Option AV) : Option AV :=
  Option.rec (motive := fun _ => Option AV → Bool → Option AV → Option AV) (fun _ _ r => r) (fun a y neg r => Option.rec (motive := fun _ => Option AV → Bool → Option AV → Option AV) (fun _ _ r => r)
    (fun l y neg r => Option.rec (motive := fun _ => List Nat → Bool → Option AV → Option AV) (fun _ _ r => r) (fun b l neg r => Option.rec (motive := fun _ => List Nat → Bool → Option AV → Option AV) (fun _ _ r => r)
      (fun m l neg _ => Bool.rec (motive := fun _ => Bool → Option AV) (fun neg => some (.bool neg)) (fun neg => Bool.rec (motive := fun _ => Option AV) (some (.bool true)) (some (.bool false)) neg) (kleq l m) neg) (vStr b) l neg r) y l neg r) (vStr a) y neg r) x y neg r
theorem pStr_eq (neg : Bool) (s : AV → AV → Option AV) (x y r : Option AV) (h : ∀ l m, x = some (.str l) → y = some (.str m) → r = some (.bool (if neg then !(l == m) else l == m))) : pStr neg s x y r = r := by
  cases x with
  | none => rfl
  | some a => cases a with
    | str l => cases y with
      | none => rfl
      | some b => cases b with
        | str m =>
          rw [h l m rfl rfl]
          change Bool.rec (motive := fun _ => Bool → Option AV) (fun neg => some (.bool neg)) (fun neg => Bool.rec (motive := fun _ => Option AV) (some (.bool true)) (some (.bool false)) neg) (kleq l m) neg = _
          rw [kleq_eq]
          cases neg <;> cases (l == m) <;> rfl
        | _ => rfl
    | _ => rfl
noncomputable def pNot (x : Option AV) : Option AV := Option.rec (motive := fun _ => Option AV) none (fun v => Option.rec (motive := fun _ => Option AV) none (fun b => Bool.rec (motive := fun _ => Option AV) (some (.bool true)) (some (.bool false)) b) (vB v)) x
noncomputable def pCvt (k : IntKind) (x : Option AV) : Option AV := Option.rec (motive := fun _ => IntKind → Option AV) (fun _ => none) (fun v k => Option.rec (motive := fun _ => IntKind → Option AV) (fun _ => none)
  (fun p k => Prod.rec (motive := fun _ => IntKind → Option AV) (fun _ z k => Int.rec (motive := fun _ => IntKind → Option AV) (fun n k => mkW k n) (fun n k => mkI k (k.wrap (.negSucc n))) z k) p k) (vI v) k) x k
noncomputable def pIxS (size : Nat) (x i : Option AV) : Option AV :=
  Option.rec (motive := fun _ => Option AV → Nat → Option AV) (fun _ _ => none) (fun v i size => Option.rec (motive := fun _ => AV → Nat → Option AV) (fun _ _ => none) (fun i v size => Option.rec (motive := fun _ => Nat → AV → Option AV) (fun _ _ => none) (fun p size v => Prod.rec (motive := fun _ => Nat → AV → Option AV) (fun _ n size v => Int.rec (motive := fun _ => Nat → AV → Option AV)
    (fun n size v => Option.rec (motive := fun _ => Nat → Nat → Option AV) (fun _ _ => none) (fun q size n => Prod.rec (motive := fun _ => Nat → Nat → Option AV) (fun a len size n => Option.rec (motive := fun _ => Nat → Nat → Nat → Option AV) (fun _ _ _ => none)
      (fun p len size n => Bool.rec (motive := fun _ => Nat × Nat → Nat → Nat → Option AV) (fun _ _ _ => none) (fun p size n => Prod.rec (motive := fun _ => Nat → Nat → Option AV) (fun b o size n => some (.ptr (some (b, Nat.add o (Nat.mul n size))))) p size n) (Nat.ble (Nat.succ n) len) p size n) a len size n) q size n) (vS v) size n)
    (fun _ _ _ => none) n size v) p size v) (vI i) size v) i v size) x i size
theorem pIxS_eq {E : Env} {t : TypeId} {ty te : ATy} {e : TypeId} (ht : E.t t = some ty) (hd : ty.d = .slice e) (he : E.t e = some te) (x i : Option AV) : pIxS te.size x i = (do let v ← x; let i ← i; indexA E t v i) := by
  cases x with
  | none => rfl
  | some v => cases i with
    | none => rfl
    | some i =>
      have h := kixS_eq ht hd he v i ⟨.leaf, [], none, ⟨.leaf, 0⟩⟩
      cases i with
      | int k n =>
        cases n with
        | negSucc n => rfl
        | ofNat n =>
          simp only [Option.bind_eq_bind, Option.bind_some, indexA, ht, hd]
          cases v with
          | slice a len cap =>
            cases a with
            | none => rfl
            | some p =>
              obtain ⟨b, o⟩ := p
              simp only [he, Option.bind_some]
              change Bool.rec (motive := fun _ => Nat × Nat → Nat → Nat → Option AV) (fun _ _ _ => none) (fun p size n => Prod.rec (motive := fun _ => Nat → Nat → Option AV) (fun b o size n => some (.ptr (some (b, Nat.add o (Nat.mul n size))))) p size n) (Nat.ble (Nat.succ n) len) (b, o) te.size n = _
              rw [ble_dec]
              by_cases h : n < len
              · rw [decide_eq_true (Nat.succ_le_of_lt h), if_pos h]; rfl
              · rw [decide_eq_false (by omega), if_neg h]
          | _ => rfl
      | _ => rfl
noncomputable def pExt (i : Nat) (x : Option AV) : Option AV := Option.rec (motive := fun _ => Nat → Option AV) (fun _ => none) (fun v i => Option.rec (motive := fun _ => Nat → Option AV) (fun _ => none) (fun l i => klook l i) (vT v) i) x i
noncomputable def pPick (c a b : Option AV) : Option AV := Option.rec (motive := fun _ => Option AV → Option AV → Option AV) (fun _ _ => none) (fun v a b => Option.rec (motive := fun _ => Option AV → Option AV → Option AV) (fun _ _ => none) (fun t a b => Bool.rec (motive := fun _ => Option AV → Option AV → Option AV) (fun _ b => b) (fun a _ => a) t a b) (vB v) a b) c a b
noncomputable def pAgg (x : Option (List AV)) : Option AV := Option.rec (motive := fun _ => Option AV) none (fun l => some (.agg l)) x
noncomputable def pBuild (E : Env) (t : TypeId) (ps : List (Nat × Operand)) : KV :=
  match E.t t with
  | none => ⟨fun _ _ => none⟩
  | some ty => match ty.zero with
    | none => ⟨fun _ _ => none⟩
    | some z => match ty.d with
      | .struct fields => match fieldsOf E fields.toList with
        | none => ⟨fun _ _ => none⟩
        | some pl => ⟨fun tm _ => pAgg ((kfill (fun i => pl[i]?) ps).run tm z.cells)⟩
      | .array _ e => match E.t e with
        | none => ⟨fun _ _ => none⟩
        | some te => ⟨fun tm _ => pAgg ((kfill (fun i => some (i * te.size, te.size)) ps).run tm z.cells)⟩
      | _ => ⟨fun _ _ => none⟩
theorem pBuild_eq (E : Env) (st : St) (t : TypeId) (ps : List (Nat × Operand)) (R : Rec) (cx : Cx) : valR st ((pBuild E t ps).run st.tm st.hp) = (kbuild E t ps).run R cx st := by
  have agg' : ∀ x, valR st (pAgg x) = kagg x st := fun x => by cases x <;> rfl
  unfold pBuild kbuild
  cases E.t t with
  | none => rfl
  | some ty =>
    simp only
    cases ty.zero with
    | none => rfl
    | some z =>
      simp only
      cases ty.d with
      | struct fields =>
        simp only
        cases fieldsOf E fields.toList with
        | none => rfl
        | some pl => exact agg' _
      | array n e =>
        simp only
        cases E.t e with
        | none => rfl
        | some te => exact agg' _
      | _ => rfl
/-- The operations that leave all as it is. -/
noncomputable def kV (E : Env) (op : Op) : Option KV :=
  match op with
  | .move x => some ⟨fun tm _ => (kev x).run tm⟩
  | .assign x => some ⟨fun tm _ => (kev x).run tm⟩
  | .pick c a b => some ⟨fun tm _ => pPick ((kev c).run tm) ((kev a).run tm) ((kev b).run tm)⟩
  | .build t ps => some (pBuild E t ps.toList)
  | .load t x => some ⟨fun tm h => pLoad (kloadVar E t) (pP ((kev x).run tm)) h⟩
  | .nilCheck x => some ⟨fun tm _ => pNil ((kev x).run tm)⟩
  | .binOp .shl .. => none
  | .binOp .shr .. => none
  | .binOp .eql t x y _ => some ⟨fun tm _ => pStr false (binV E .eql t x y) ((kev x).run tm) ((kev y).run tm) (pBin (kInt .eql) (binV E .eql t x y) ((kev x).run tm) ((kev y).run tm))⟩
  | .binOp .neq t x y _ => some ⟨fun tm _ => pStr true (binV E .neq t x y) ((kev x).run tm) ((kev y).run tm) (pBin (kInt .neq) (binV E .neq t x y) ((kev x).run tm) ((kev y).run tm))⟩
  | .binOp op t x y _ => some ⟨fun tm _ => pBin (kInt op) (binV E op t x y) ((kev x).run tm) ((kev y).run tm)⟩
  | .unOp .not _ x => some ⟨fun tm _ => pNot ((kev x).run tm)⟩
  | .convert src dst x => match E.t src, E.t dst with
    | some _, some d => match d.d with
      | .int k => some ⟨fun tm _ => pCvt k ((kev x).run tm)⟩
      | _ => none
    | _, _ => none
  | .fieldAddr s x f => match fieldOf E s f with
    | none => none
    | some (tf, off) => if tf.size = 0 then none else some ⟨fun tm _ => pField off (pP ((kev x).run tm))⟩
  | .indexAddr t x i => match E.t t with
    | none => none
    | some ty => match ty.d with
      | .slice e => match E.t e with
        | none => none
        | some te => some ⟨fun tm _ => pIxS te.size ((kev x).run tm) ((kev i).run tm)⟩
      | _ => none
  | .extract x i => some ⟨fun tm _ => pExt i ((kev x).run tm)⟩
  | _ => none
theorem kV_eq (E : Env) (R : Rec) (cx : Cx) (op : Op) (st : St) (k : KV) (hk : kV E op = some k) : opGo E R cx op st = valR st (k.run st.tm st.hp) := by
  have bind' : ∀ {α : Type} (x : Option α) (f : α → Option AV), valR st (x.bind f) = x.bind fun a => valR st (f a) := by
    intro α x f; cases x <;> rfl
  unfold kV at hk
  split at hk
  · cases hk; change _ = valR st ((kev _).run st.tm); rw [kev_eq]; rfl
  · cases hk; change _ = valR st ((kev _).run st.tm); rw [kev_eq]; rfl
  · rename_i c a b
    cases hk
    change oPick st c a b = valR st (pPick ((kev c).run st.tm) ((kev a).run st.tm) ((kev b).run st.tm))
    rw [kev_eq, kev_eq, kev_eq]
    unfold oPick
    cases ev st.tm c with
    | none => rfl
    | some v => cases v with
      | bool t => cases t <;> rfl
      | _ => rfl
  · cases hk
    rw [pBuild_eq E st _ _ R cx, kbuild_eq]; rfl
  · rename_i t x
    cases hk
    change oLoad E st t x = valR st (pLoad (kloadVar E t) (pP ((kev x).run st.tm)) st.hp)
    rw [kev_eq]
    unfold oLoad
    cases ev st.tm x with
    | none => rfl
    | some v => cases v with
      | ptr a => cases a with
        | none => rfl
        | some p =>
          change _ = valR st ((kloadVar E t).run st.hp p.1 p.2)
          rw [kloadVar_eq]; rfl
      | _ => rfl
  · rename_i x
    cases hk
    change oNilCheck st x = valR st (pNil ((kev x).run st.tm))
    rw [kev_eq]
    unfold oNilCheck
    cases ev st.tm x with
    | none => rfl
    | some v => cases v with
      | ptr a => cases a <;> rfl
      | _ => rfl
  · cases hk
  · cases hk
  · rename_i t x y _
    cases hk
    change oBinOp E st .eql t x y = valR st (pStr false (binV E .eql t x y) ((kev x).run st.tm) ((kev y).run st.tm) (pBin (kInt .eql) (binV E .eql t x y) ((kev x).run st.tm) ((kev y).run st.tm)))
    rw [kev_eq, kev_eq, pBin_eq _ _ _ _ (fun k m n => by rw [kInt_eq, binV_int (by simp) (by simp)]), pStr_eq _ _ _ _ _ (fun l m h1 h2 => by rw [h1, h2]; rfl)]
    unfold oBinOp
    cases ev st.tm x with
    | none => rfl
    | some a => cases ev st.tm y <;> rfl
  · rename_i t x y _
    cases hk
    change oBinOp E st .neq t x y = valR st (pStr true (binV E .neq t x y) ((kev x).run st.tm) ((kev y).run st.tm) (pBin (kInt .neq) (binV E .neq t x y) ((kev x).run st.tm) ((kev y).run st.tm)))
    rw [kev_eq, kev_eq, pBin_eq _ _ _ _ (fun k m n => by rw [kInt_eq, binV_int (by simp) (by simp)]), pStr_eq _ _ _ _ _ (fun l m h1 h2 => by rw [h1, h2]; rfl)]
    unfold oBinOp
    cases ev st.tm x with
    | none => rfl
    | some a => cases ev st.tm y <;> rfl
  · rename_i op t x y _ h1 h2 _ _
    cases hk
    change oBinOp E st op t x y = valR st (pBin (kInt op) (binV E op t x y) ((kev x).run st.tm) ((kev y).run st.tm))
    rw [kev_eq, kev_eq, pBin_eq _ _ _ _ (fun k m n => by rw [kInt_eq, binV_int h1 h2])]
    unfold oBinOp
    cases ev st.tm x with
    | none => rfl
    | some a => cases ev st.tm y <;> rfl
  · rename_i x
    cases hk
    change oUnOp st .not x = valR st (pNot ((kev x).run st.tm))
    rw [kev_eq]
    unfold oUnOp
    cases ev st.tm x with
    | none => rfl
    | some v => cases v with
      | bool b => cases b <;> rfl
      | _ => rfl
  · rename_i src dst x
    split at hk
    · rename_i s d h1 h2
      split at hk
      · rename_i k h3
        cases hk
        change oConvert E st src dst x = valR st (pCvt k ((kev x).run st.tm))
        rw [kev_eq]
        simp only [oConvert, h1, h2, Option.bind_eq_bind, Option.bind_some]
        cases ev st.tm x with
        | none => rfl
        | some v =>
          simp only [Option.bind_some, h3]
          cases v with
          | int j z =>
            cases z with
            | ofNat n =>
              change _ = valR st (mkW k n)
              rw [mkW_eq]; simp [convV]
            | negSucc n =>
              change _ = valR st (mkI k (k.wrap (.negSucc n)))
              rw [mkI_eq]; simp [convV, wrapI]
          | _ => cases s.d <;> rfl
      · cases hk
    · cases hk
  · rename_i s x f
    split at hk
    · cases hk
    · rename_i tf off h
      split at hk
      · cases hk
      · rename_i h0
        cases hk
        change oFieldAddr E st s x f = valR st (pField off (pP ((kev x).run st.tm)))
        rw [kev_eq]
        unfold oFieldAddr
        cases ev st.tm x with
        | none => rfl
        | some v => cases v with
          | ptr a => cases a with
            | none => rfl
            | some p => obtain ⟨b, o⟩ := p; simp [fieldA, h, h0]; rfl
          | _ => rfl
  · rename_i t x i
    split at hk
    · cases hk
    · rename_i ty h
      split at hk
      · rename_i e hd
        split at hk
        · cases hk
        · rename_i te he
          cases hk
          change oIndexAddr E st t x i = valR st (pIxS te.size ((kev x).run st.tm) ((kev i).run st.tm))
          rw [kev_eq, kev_eq, pIxS_eq h hd he]
          unfold oIndexAddr
          cases ev st.tm x with
          | none => rfl
          | some a => cases ev st.tm i <;> rfl
      · cases hk
  · rename_i x i
    cases hk
    change oExtract st x i = valR st (pExt i ((kev x).run st.tm))
    rw [kev_eq]
    unfold oExtract
    cases ev st.tm x with
    | none => rfl
    | some v => cases v with
      | tuple vs =>
        change _ = valR st (klook vs i)
        rw [klook_eq]; rfl
      | _ => rfl
  · cases hk

/-- One operation, its slot, and on. -/
noncomputable def fPut (d : Nat) (x : Option AV) (tm : T AV) (df : List AD) (up : Option Md) (hp : Heap) (R : Rec) (cx : Cx) (rest : KC) : Option (Ex × St) :=
  Option.rec (motive := fun _ => Nat → T AV → List AD → Option Md → Heap → Rec → Cx → KC → Option (Ex × St)) (fun _ _ _ _ _ _ _ _ => none)
    (fun v d tm df up hp R cx rest => Bool.rec (motive := fun _ => AV → Nat → T AV → List AD → Option Md → Heap → Rec → Cx → KC → Option (Ex × St)) (fun _ _ _ _ _ _ _ _ _ => none)
      (fun v d tm df up hp R cx rest => T.rec (motive := fun _ => List AD → Option Md → Heap → Rec → Cx → KC → Option (Ex × St)) (fun df up hp R cx rest => rest.run R cx ⟨.leaf, df, up, hp⟩) (fun l w r _ _ df up hp R cx rest => rest.run R cx ⟨.node l w r, df, up, hp⟩) ((T.sOf d d).run tm v) df up hp R cx rest)
      (Nat.ble (Nat.succ d) cx.nt) v d tm df up hp R cx rest) x d tm df up hp R cx rest
theorem fPut_eq (d : Nat) (x : Option AV) (st : St) (R : Rec) (cx : Cx) (rest : KC) : fPut d x st.tm st.df st.up st.hp R cx rest = (do let v ← x; let s ← put cx (some d) v st; rest.run R cx s) := by
  cases x with
  | none => rfl
  | some v =>
    change Bool.rec (motive := fun _ => AV → Nat → T AV → List AD → Option Md → Heap → Rec → Cx → KC → Option (Ex × St)) (fun _ _ _ _ _ _ _ _ _ => none)
      (fun v d tm df up hp R cx rest => T.rec (motive := fun _ => List AD → Option Md → Heap → Rec → Cx → KC → Option (Ex × St)) (fun df up hp R cx rest => rest.run R cx ⟨.leaf, df, up, hp⟩) (fun l w r _ _ df up hp R cx rest => rest.run R cx ⟨.node l w r, df, up, hp⟩) ((T.sOf d d).run tm v) df up hp R cx rest)
      (Nat.ble (Nat.succ d) cx.nt) v d st.tm st.df st.up st.hp R cx rest = _
    rw [ble_dec]
    simp only [put, Option.bind_eq_bind, Option.bind_some]
    by_cases h : d < cx.nt
    · rw [decide_eq_true (Nat.succ_le_of_lt h), if_pos h]
      change T.rec (motive := fun _ => List AD → Option Md → Heap → Rec → Cx → KC → Option (Ex × St)) (fun df up hp R cx rest => rest.run R cx ⟨.leaf, df, up, hp⟩) (fun l w r _ _ df up hp R cx rest => rest.run R cx ⟨.node l w r, df, up, hp⟩) ((T.sOf d d).run st.tm v) st.df st.up st.hp R cx rest = _
      rw [T.sOf_eq d d (Nat.le_refl _), Option.bind_some]
      cases st.tm.set d v <;> rfl
    · rw [decide_eq_false (fun hh => h (Nat.lt_of_succ_le hh)), if_neg h]; rfl
noncomputable def fOps (E : Env) (all : List Oper) : List Oper → KC
  | [] => ⟨fun _ _ s => some (.normal, s)⟩
  | o :: os => match o.guard, kV E o.op, o.dst with
    | none, some k, some d => ⟨fun R cx s => St.rec (motive := fun _ => KV → Nat → Rec → Cx → KC → Option (Ex × St)) (fun tm df up hp k d R cx rest => fPut d (k.run tm hp) tm df up hp R cx rest) s k d R cx (fOps E all os)⟩
    | _, _, _ => ⟨fun R cx s => kSeq1 ((kOne E all o).run R cx s) R cx (fOps E all os)⟩
theorem fOps_eq (E : Env) (R : Rec) (cx : Cx) (all : List Oper) : ∀ (os : List Oper) (s : St), (fOps E all os).run R cx s = opsRun E R cx all os s
  | [], _ => rfl
  | o :: os, s => by
    have gen : kSeq1 ((kOne E all o).run R cx s) R cx (fOps E all os) = opsRun E R cx all (o :: os) s := by
      rw [kOne_eq, opsRun]
      cases oneOp E R cx all o s with
      | none => rfl
      | some q => cases q with
        | val v s => exact fOps_eq E R cx all os s
        | pan c s => rfl
    unfold fOps
    split
    · rename_i k d hg hk hd
      change fPut d (k.run s.tm s.hp) s.tm s.df s.up s.hp R cx (fOps E all os) = _
      rw [fPut_eq]
      simp only [opsRun, oneOp, wantedV, hg, Option.bind_eq_bind, Option.bind_some, if_true, opStep, kV_eq E R cx o.op s k hk]
      cases k.run s.tm s.hp with
      | none => rfl
      | some v =>
        simp only [valR, Option.map_some, Option.bind_some, hd]
        cases put cx (some d) v s with
        | none => rfl
        | some s' => exact fOps_eq E R cx all os s'
    · exact gen
end Go.Av

/- For the kernel: code; the whole evaluator. -/
namespace Go.Av

/-- Code, and behind its end more. -/
noncomputable def kThen (x : Option (Ex × St)) (R : Rec) (cx : Cx) (c : Code) : Option (Ex × St) :=
  Option.rec (motive := fun _ => Rec → Cx → Code → Option (Ex × St)) (fun _ _ _ => none) (fun p R cx c => Prod.rec (motive := fun _ => Rec → Cx → Code → Option (Ex × St)) (fun ex s R cx c => Ex.rec (motive := fun _ => St → Rec → Cx → Code → Option (Ex × St)) (fun s R cx c => R.code cx c s) (fun id s _ _ _ => some (.exit id, s)) (fun l s _ _ _ => some (.goto l, s)) (fun s _ _ _ => some (.ret, s)) (fun ch s _ _ _ => some (.panic ch, s)) ex s R cx c) p R cx c) x R cx c
theorem kThen_eq (x : Option (Ex × St)) (R : Rec) (cx : Cx) (c : Code) : kThen x R cx c = (do
    match ← x with
    | (.normal, s) => R.code cx c s
    | r => some r) := by
  cases x with
  | none => rfl
  | some p => obtain ⟨ex, s⟩ := p; cases ex <;> rfl
noncomputable def kBlock (id : Nat) (x : Option (Ex × St)) : Option (Ex × St) :=
  Option.rec (motive := fun _ => Nat → Option (Ex × St)) (fun _ => none) (fun p id => Prod.rec (motive := fun _ => Nat → Option (Ex × St)) (fun ex s id => Ex.rec (motive := fun _ => St → Nat → Option (Ex × St)) (fun s _ => some (.normal, s)) (fun j s id => Bool.rec (motive := fun _ => Nat → St → Option (Ex × St)) (fun j s => some (.exit j, s)) (fun _ s => some (.normal, s)) (Nat.beq j id) j s) (fun l s _ => some (.goto l, s)) (fun s _ => some (.ret, s)) (fun ch s _ => some (.panic ch, s)) ex s id) p id) x id
theorem kBlock_eq (id : Nat) (x : Option (Ex × St)) : kBlock id x = (do
    match ← x with
    | (.exit j, s) => if j = id then some (.normal, s) else some (.exit j, s)
    | r => some r) := by
  cases x with
  | none => rfl
  | some p =>
    obtain ⟨ex, s⟩ := p
    cases ex with
    | exit j =>
      change Bool.rec (motive := fun _ => Nat → St → Option (Ex × St)) (fun j s => some (.exit j, s)) (fun _ s => some (.normal, s)) (Nat.beq j id) j s = _
      rw [beq_dec]
      simp only [Option.bind_eq_bind, Option.bind_some]
      by_cases h : j = id
      · rw [decide_eq_true h, if_pos h]
      · rw [decide_eq_false h, if_neg h]
    | _ => rfl
noncomputable def kCond (v : Option AV) (R : Rec) (cx : Cx) (a b : Code) (s : St) : Option (Ex × St) :=
  Option.rec (motive := fun _ => Rec → Cx → Code → Code → St → Option (Ex × St)) (fun _ _ _ _ _ => none) (fun v R cx a b s => Option.rec (motive := fun _ => Rec → Cx → Code → Code → St → Option (Ex × St)) (fun _ _ _ _ _ => none)
    (fun t R cx a b s => Bool.rec (motive := fun _ => Rec → Cx → Code → Code → St → Option (Ex × St)) (fun R cx _ b s => R.code cx b s) (fun R cx a _ s => R.code cx a s) t R cx a b s) (vB v) R cx a b s) v R cx a b s
theorem kCond_eq (v : Option AV) (R : Rec) (cx : Cx) (a b : Code) (s : St) : kCond v R cx a b s = (do
    let .bool t ← v | none
    if t then R.code cx a s else R.code cx b s) := by
  cases v with
  | none => rfl
  | some v => cases v with
    | bool t => cases t <;> rfl
    | _ => rfl
noncomputable def kCode (E : Env) (c : Code) : KC :=
  match c with
  | .skip => ⟨fun _ _ s => some (.normal, s)⟩
  | .region _ ops draw => if draw then kDraw E ops.toList else fOps E ops.toList ops.toList
  | .seq a b => ⟨fun R cx s => kThen (R.code cx a s) R cx b⟩
  | .cond c a b => ⟨fun R cx s => kCond ((kev c).run s.tm) R cx a b s⟩
  | .block id b => ⟨fun R cx s => kBlock id (R.code cx b s)⟩
  | .loop b => ⟨fun R cx s => kThen (R.code cx b s) R cx (.loop b)⟩
  | .exit id => ⟨fun _ _ s => some (.exit id, s)⟩
  | .ret => ⟨fun _ _ s => some (.ret, s)⟩
  | .scope b => ⟨fun R cx s => R.scope cx b b s⟩
  | c => ⟨fun R cx s => codeStep E R cx c s⟩
theorem kCode_eq (E : Env) (R : Rec) (cx : Cx) (c : Code) (s : St) : (kCode E c).run R cx s = codeStep E R cx c s := by
  unfold kCode
  split
  · rfl
  · simp only [codeStep]
    split
    · exact kDraw_eq ..
    · exact fOps_eq ..
  · exact kThen_eq ..
  · exact (kCond_eq ..).trans (by rw [kev_eq]; rfl)
  · exact kBlock_eq ..
  · exact kThen_eq ..
  · rfl
  · rfl
  · rfl
  · rfl
/-- Results. -/
noncomputable def kScope (R : Rec) (cx : Cx) (b c : Code) (s : St) : Option (Ex × St) :=
  Option.rec (motive := fun _ => Rec → Cx → Code → Option (Ex × St)) (fun _ _ _ => none) (fun p R cx b => Prod.rec (motive := fun _ => Rec → Cx → Code → Option (Ex × St)) (fun ex s R cx b => Ex.rec (motive := fun _ => St → Rec → Cx → Code → Option (Ex × St)) (fun s _ _ _ => some (.normal, s)) (fun id s _ _ _ => some (.exit id, s))
    (fun l s R cx b => match findLabel b l with
      | some r => R.scope cx b r s
      | none => some (.goto l, s)) (fun s _ _ _ => some (.ret, s)) (fun ch s _ _ _ => some (.panic ch, s)) ex s R cx b) p R cx b) (R.code cx c s) R cx b
theorem kScope_eq (R : Rec) (cx : Cx) (b c : Code) (s : St) : kScope R cx b c s = scopeStep R cx b c s := by
  unfold kScope scopeStep
  cases R.code cx c s with
  | none => rfl
  | some p => obtain ⟨ex, s⟩ := p; cases ex <;> rfl
noncomputable def kEnd (x : Option (Ex × St)) (R : Rec) (fn : Func) : Option Rs :=
  Option.rec (motive := fun _ => Rec → Func → Option Rs) (fun _ _ => none) (fun p R fn => Prod.rec (motive := fun _ => Rec → Func → Option Rs) (fun ex s R fn => Ex.rec (motive := fun _ => St → Rec → Func → Option Rs) (fun s R fn => R.leave fn s .returning) (fun _ _ _ _ => none) (fun _ _ _ _ => none) (fun s R fn => R.leave fn s .returning) (fun c s R fn => R.leave fn s (.panicking c)) ex s R fn) p R fn) x R fn
structure KCall where run : Rec → List AV → Option Md → Heap → Option Rs
noncomputable def kCall (E : Env) (f : FuncId) : KCall :=
  match E.fn.get f with
  | none => ⟨fun _ _ _ _ => none⟩
  | some fn => match fn.body with
    | none => ⟨fun _ _ _ _ => none⟩
    | some c => ⟨fun R args up h => Bool.rec (motive := fun _ => Rec → List AV → Option Md → Heap → Option Rs) (fun _ _ _ _ => none)
        (fun R args up h => T.rec (motive := fun _ => Rec → Option Md → Heap → Option Rs) (fun R up h => kEnd (R.code ⟨f, fn.ntmps, none⟩ c ⟨.leaf, [], up, h⟩) R fn) (fun l w r _ _ R up h => kEnd (R.code ⟨f, fn.ntmps, none⟩ c ⟨.node l w r, [], up, h⟩) R fn) (kofL args 0 .leaf) R up h) (Nat.ble (klen args) fn.ntmps) R args up h⟩
theorem kCall_eq (E : Env) (R : Rec) (f : FuncId) (args : List AV) (up : Option Md) (h : Heap) : (kCall E f).run R args up h = callStep E R f args up h := by
  unfold kCall callStep
  split
  · rename_i h1; simp [h1]
  · rename_i fn h1
    simp only [h1, Option.bind_eq_bind, Option.bind_some]
    split
    · rename_i h2; simp [h2]
    · rename_i c h2
      simp only [h2, Option.bind_some]
      change Bool.rec (motive := fun _ => Rec → List AV → Option Md → Heap → Option Rs) (fun _ _ _ _ => none)
        (fun R args up h => T.rec (motive := fun _ => Rec → Option Md → Heap → Option Rs) (fun R up h => kEnd (R.code ⟨f, fn.ntmps, none⟩ c ⟨.leaf, [], up, h⟩) R fn) (fun l w r _ _ R up h => kEnd (R.code ⟨f, fn.ntmps, none⟩ c ⟨.node l w r, [], up, h⟩) R fn) (kofL args 0 .leaf) R up h) (Nat.ble (klen args) fn.ntmps) R args up h = _
      rw [ble_dec, klen_eq]
      by_cases hl : args.length ≤ fn.ntmps
      · rw [decide_eq_true hl, if_pos hl]
        change T.rec (motive := fun _ => Rec → Option Md → Heap → Option Rs) (fun R up h => kEnd (R.code ⟨f, fn.ntmps, none⟩ c ⟨.leaf, [], up, h⟩) R fn) (fun l w r _ _ R up h => kEnd (R.code ⟨f, fn.ntmps, none⟩ c ⟨.node l w r, [], up, h⟩) R fn) (kofL args 0 .leaf) R up h = _
        rw [kofL_eq]
        have key : ∀ x : Option (Ex × St), kEnd x R fn = x.bind fun p => match p with
            | (.normal, s) => R.leave fn s .returning
            | (.ret, s) => R.leave fn s .returning
            | (.panic c, s) => R.leave fn s (.panicking c)
            | _ => none := by
          intro x
          cases x with
          | none => rfl
          | some p => obtain ⟨ex, s⟩ := p; cases ex <;> rfl
        cases T.ofL args 0 .leaf with
        | leaf => exact key _
        | node l w r => exact key _
      · rw [decide_eq_false hl, if_neg hl]
noncomputable def kRets (x : Option (List AV)) (s : St) : Option Rs :=
  Option.rec (motive := fun _ => St → Option Rs) (fun _ => none) (fun vs s => St.rec (motive := fun _ => List AV → Option Rs) (fun _ _ up hp vs => List.rec (motive := fun _ => Option Md → Heap → Option Rs) (fun up hp => some (.ret (.tuple []) up hp)) (fun v vs _ up hp => List.rec (motive := fun _ => AV → Option Md → Heap → Option Rs) (fun v up hp => some (.ret v up hp)) (fun w ws _ v up hp => some (.ret (.tuple (v :: w :: ws)) up hp)) vs v up hp) vs up hp) s vs) x s
theorem kRets_eq (x : Option (List AV)) (s : St) : kRets x s = (do let vs ← x; some (.ret (resV vs) s.up s.hp)) := by
  cases x with
  | none => rfl
  | some vs =>
    obtain ⟨tm, df, up, hp⟩ := s
    cases vs with
    | nil => rfl
    | cons v vs => cases vs <;> rfl
structure KRs where run : St → Option (List AV)
noncomputable def kresults (E : Env) : List ResultVar → KRs
  | [] => ⟨fun _ => some []⟩
  | .tmp t :: rs => ⟨fun s => consO ((T.gOf t t).run s.tm) ((kresults E rs).run s)⟩
  | .cell a t :: rs => ⟨fun s => consO (do
      let .ptr (some (b, o)) ← s.tm.get a | none
      (kloadVar E t).run s.hp b o) ((kresults E rs).run s)⟩
theorem kresults_eq (E : Env) (s : St) : ∀ rs, (kresults E rs).run s = resultsV E s rs
  | [] => rfl
  | .tmp t :: rs => by
    change consO ((T.gOf t t).run s.tm) ((kresults E rs).run s) = _
    rw [consO_eq, kresults_eq E s rs, T.gOf_eq t t (Nat.le_refl _)]; rfl
  | .cell a t :: rs => by
    change consO (do
      let .ptr (some (b, o)) ← s.tm.get a | none
      (kloadVar E t).run s.hp b o) ((kresults E rs).run s) = _
    rw [consO_eq, kresults_eq E s rs]
    simp only [kloadVar_eq]
    rfl
noncomputable def kLeave (E : Env) (R : Rec) (fn : Func) (s : St) (m : Md) : Option Rs :=
  List.rec (motive := fun _ => Env → Rec → Func → St → Md → Option Rs)
    (fun E R fn s m => Md.rec (motive := fun _ => Env → Rec → Func → St → Option Rs) (fun E _ fn s => kRets ((kresults E fn.results.toList).run s) s) (fun c E R fn s => leaveStep E R fn s (.panicking c)) m E R fn s)
    (fun _ _ _ E R fn s m => leaveStep E R fn s m) s.df E R fn s m
theorem kLeave_eq (E : Env) (R : Rec) (fn : Func) (s : St) (m : Md) : kLeave E R fn s m = leaveStep E R fn s m := by
  unfold kLeave
  cases h : s.df with
  | cons d ds => rfl
  | nil => cases m with
    | panicking c => rfl
    | returning =>
      change kRets ((kresults E fn.results.toList).run s) s = _
      rw [kRets_eq, kresults_eq]
      simp only [leaveStep, h]
noncomputable def kStep (E : Env) (R : Rec) : Rec :=
  ⟨fun cx c s => (kCode E c).run R cx s, fun f args up h => (kCall E f).run R args up h, fun fn s m => kLeave E R fn s m, fun cx b c s => kScope R cx b c s⟩
theorem kStep_eq (E : Env) (R : Rec) : kStep E R = stepR E R := by
  unfold kStep stepR
  congr 1
  · funext cx c s; exact kCode_eq ..
  · funext f args up h; exact kCall_eq ..
  · funext fn s m; exact kLeave_eq ..
  · funext cx b c s; exact kScope_eq ..
noncomputable def kaev (E : Env) (n : Nat) : Rec := Nat.rec (motive := fun _ => Rec) rec0 (fun _ R => kStep E R) n
theorem kaev_eq (E : Env) (n : Nat) : kaev E n = aev E n := by
  induction n with
  | zero => rfl
  | succ n ih =>
    change kStep E (kaev E n) = _
    rw [kStep_eq, ih]; rfl
end Go.Av

/- From the evaluator's answer to a call's contract. -/
namespace Go.Av
open Go.RowKit
section
variable {P : Program} {E : Env}

theorem calls_ret (hE : E.Ok P) {n : Nat} {f : FuncId} {args : List AV} {h : Heap} {v : AV} {up : Option Md} {h' : Heap} (hc : (aev E n).call f args none h = some (.ret v up h')) {φ : Phi} {w : World} (H : HRel E φ h w) {args' : Array Value} (ha : VRels φ args args'.toList) :
    Calls P f args' w fun e w' => ∃ x φ', e = .returned x ∧ VRel φ' v x ∧ HRel E φ' h' w' ∧ Ext φ h w φ' h' w' := by
  intro cs
  obtain ⟨φ', fr, cs', w', hst, hg, hu, hH, hX⟩ := (aev_ok hE n).call f args none h _ hc φ .normal cs cs w args' ha ⟨rfl, rfl⟩ H
  obtain ⟨g1, g2, g3, g4, fn, x, g5, g6, g7⟩ := hg
  have hcs : cs' = cs := by
    cases up with
    | none => exact hu.2
    | some m => have := hu.1; cases this
  subst hcs
  exact ⟨.returned x, w', fr, ⟨x, φ', rfl, g7, hH, hX⟩, hst, g1, g3, g4, g2, fn, g5, g6⟩

/-- Nothing is known of the memory. -/
def noPhi : Phi := fun _ => none
def noHeap : Heap := ⟨.leaf, 0⟩
theorem noPhi_some {B : Nat} {L : Loc} (e : noPhi B = some L) : False := by cases (show (Option.none : Option Loc) = some L from e)
theorem noHeap_rel (w : World) : HRel E noPhi noHeap w where
  dom := fun _ _ e => (noPhi_some e).elim
  inj := fun _ _ _ _ e => (noPhi_some e).elim
  blk := fun _ _ e => (noPhi_some e).elim
  fresh := fun B _ => T.get_leaf B
theorem Ext.below {h' : Heap} {φ' : Phi} {w w' : World} (X : Ext noPhi noHeap w φ' h' w') : Below w.heap.size w w' := ⟨X.os, X.tape, X.output, X.size, fun k hk => X.old k hk fun _ _ e => (noPhi_some e).elim⟩

/-- Did a call answer true? -/
noncomputable def isTrue (r : Option Rs) : Bool := Option.rec (motive := fun _ => Bool) false (fun r => Rs.rec (motive := fun _ => Bool) (fun v _ _ => Option.rec (motive := fun _ => Bool) false (fun b => b) (vB v)) (fun _ _ _ => false) r) r
theorem isTrue_of {r : Option Rs} (h : isTrue r = true) : ∃ up hp, r = some (.ret (.bool true) up hp) := by
  cases r with
  | none => cases h
  | some r => cases r with
    | pan c u hp => cases h
    | ret v u hp => cases v with
      | bool b =>
        have hb : b = true := h
        subst hb
        exact ⟨u, hp, rfl⟩
      | _ => cases h
/-- A call that answers true, of arguments without places in memory. -/
theorem calls_true (hE : E.Ok P) (n : Nat) {f : FuncId} {args : List AV} (hc : isTrue ((kaev E n).call f args none noHeap) = true) (w : World) {args' : Array Value} (ha : VRels noPhi args args'.toList) :
    Calls P f args' w fun e w' => e = .returned (.bool true) ∧ Below w.heap.size w w' := by
  rw [kaev_eq] at hc
  obtain ⟨up, hp, hc⟩ := isTrue_of hc
  refine (calls_ret hE hc (noHeap_rel w) ha).mono fun e w' ⟨x, φ', he, hv, _, hX⟩ => ?_
  simp only [VRel] at hv
  subst hv
  exact ⟨he, hX.below⟩

/-! ### The place of a byte in a text -/
theorem place_eq (l : List UInt8) (c : Nat) (hc : c < 256) (i : Nat) : placeOf c (l.map UInt8.toNat) i = if Lib.indexByte l c.toUInt8 = -1 then -1 else Lib.indexByte l c.toUInt8 + (i : Int) := by
  induction l generalizing i with
  | nil => simp [placeOf, Lib.indexByte]
  | cons b l ih =>
    have hb : (b == c.toUInt8) = decide (b.toNat = c) := by
      rw [Bool.eq_iff_iff, beq_iff_eq, decide_eq_true_eq]
      constructor
      · rintro rfl; simp; omega
      · rintro rfl; simp
    simp only [List.map_cons, placeOf, Lib.indexByte, hb]
    by_cases h : b.toNat = c
    · simp [h]
    · have hge := Lib.indexByte_ge l c.toUInt8
      simp only [h, if_false, decide_false, Bool.false_eq_true]
      rw [ih]
      by_cases h2 : Lib.indexByte l c.toUInt8 = -1
      · simp [h2]
      · have h3 : (Lib.indexByte l c.toUInt8 == -1) = false := by simpa using h2
        simp only [h2, if_false, h3, Bool.false_eq_true]
        rw [if_neg (by omega)]
        omega
theorem ext_place {f : FuncId} {fn : Func} (hf : P.funcs[f]? = some fn) (hname : (fn.name == "runtime.NumGoroutine") = false) (hb : fn.body.isNone = true) (hn : Extern.findNext fn = none) (he : Extern.find fn = some Extern.BytealgIndexByte.indexByte) (args : List AV) (v : AV) (φ : Phi) (vs : Array Value) (w : World)
    (hv : extV 1 args = some v) (hr : VRels φ args vs.toList) : ∃ x, (callFunc f vs).run P w = .ok (.value x) w ∧ VRel φ v x := by
  unfold extV at hv
  split at hv
  · rename_i s c _
    split at hv
    · rename_i hc
      cases hv
      obtain ⟨a, b, rfl, ha, hb'⟩ := hr.two
      simp only [VRel] at ha hb'
      obtain ⟨t, rfl, rfl⟩ := ha
      subst hb'
      refine ⟨.int .i64 (placeOf c (t.data.toList.map UInt8.toNat) 0), ?_, by simp only [VRel]⟩
      rw [run_callFunc_extern hf hname hb hn he]
      simp only [Lib.run_indexByteString, Result.andThen_ok]
      rw [place_eq _ _ hc]
      simp only [Int.ofNat_eq_natCast, Int.toNat_natCast, Int.add_zero, Int.natCast_zero]
      by_cases h2 : Lib.indexByte t.data.toList c.toUInt8 = -1
      · simp [h2]
      · simp [h2]
    · cases hv
  · cases hv

/-! ### The tables -/
theorem tyOf_ok {t : TypeId} {a : ATy} (h : tyOf P t = some a) : P.underlying t = some a.d ∧ ∃ i, P.info? t = some i ∧ i.size = a.size ∧ i.bytes = a.bytes ∧ i.comparable = a.comparable ∧
    (∀ z, a.zero = some z → ∃ v, i.zero = some v ∧ ofV 9 v = some z) ∧ a.agg = (match a.d with | .struct _ => true | .array .. => true | _ => false) ∧
    (a.shy = false → P.eqGuardType P.depth t = false ∧ P.stoodInHeld t = false) ∧
    (∀ fs, a.d = .struct fs → a.eqf = (fs.toList.filter fun f : Field => decide (f.name ≠ "_")).map fun f : Field => (f.type, f.offset)) := by
  unfold tyOf at h
  split at h
  · rename_i i d hi hd
    cases h
    refine ⟨hd, i, hi, rfl, rfl, rfl, fun z hz => ?_, rfl, fun hs => ?_, fun fs hf => ?_⟩
    · simp only at hz
      split at hz
      · rename_i v hv; exact ⟨v, hv, hz⟩
      · cases hz
    · simpa using hs
    · simp only at hf ⊢
      rw [hf]
  · cases h
end
end Go.Av

/- The tables of a program, written out; that they are the program's. -/
namespace Go.Av
/-- What holds of all that a map holds: the place of a number is a * number + c. -/
def T.All {α : Type} (p : Nat → α → Prop) : T α → Nat → Nat → Prop
  | .leaf, _, _ => True
  | .node l v r, a, c => T.All p l (2 * a) (a + c) ∧ (match v with | none => True | some x => p c x) ∧ T.All p r (2 * a) (2 * a + c)
theorem T.All.get {α : Type} {p : Nat → α → Prop} : ∀ {t : T α} {a c : Nat}, T.All p t a c → ∀ i x, t.get i = some x → p (a * i + c) x
  | .leaf, _, _, _, i, x, h => by rw [T.get_leaf] at h; cases h
  | .node l v r, a, c, hall, i, x, h => by
    obtain ⟨h1, h2, h3⟩ := hall
    rw [T.get_node] at h
    split at h
    · rename_i h0
      subst h0
      rw [h] at h2
      simpa using h2
    · split at h
      · have := h1.get _ _ h
        have e : 2 * a * (i / 2) + (a + c) = a * i + c := by
          have hi : i = 2 * (i / 2) + 1 := by omega
          conv => rhs; rw [hi]
          rw [Nat.mul_add, Nat.mul_one, ← Nat.mul_assoc, Nat.mul_comm a 2]; omega
        rwa [e] at this
      · have := h3.get _ _ h
        have e : 2 * a * (i / 2 - 1) + (2 * a + c) = a * i + c := by
          have hi : i = 2 * (i / 2 - 1) + 2 := by omega
          conv => rhs; rw [hi]
          rw [Nat.mul_add, ← Nat.mul_assoc, Nat.mul_comm a 2]; omega
        rwa [e] at this
theorem T.All.get0 {α : Type} {p : Nat → α → Prop} {t : T α} (h : T.All p t 1 0) {i : Nat} {x : α} (hx : t.get i = some x) : p i x := by
  have := h.get i x hx
  simpa using this
/-- What the proof asks of a type's row. -/
def TyOk (P : Program) (t : TypeId) (a : ATy) : Prop := P.underlying t = some a.d ∧ ∃ i, P.info? t = some i ∧ i.size = a.size ∧ i.bytes = a.bytes ∧ i.comparable = a.comparable ∧
    (∀ z, a.zero = some z → ∃ v, i.zero = some v ∧ ofV 9 v = some z) ∧ a.agg = (match a.d with | .struct _ => true | .array .. => true | _ => false) ∧
    (a.shy = false → P.eqGuardType P.depth t = false ∧ P.stoodInHeld t = false) ∧
    (∀ fs, a.d = .struct fs → a.eqf = (fs.toList.filter fun f : Field => decide (f.name ≠ "_")).map fun f : Field => (f.type, f.offset))
/-- A type's row, out of its own and the one that lies under it. -/
def tyFrom (i : TypeInfo) (d : TypeDesc) (shy : Bool) : ATy :=
  { d, size := i.size, bytes := i.bytes, comparable := i.comparable
    zero := match i.zero with | some z => ofV 9 z | none => none
    agg := match d with | .struct _ => true | .array .. => true | _ => false
    shy, eqf := match d with | .struct fs => (fs.toList.filter fun f => f.name ≠ "_").map fun f => (f.type, f.offset) | _ => [] }
theorem tyFrom_ok {P : Program} {t : TypeId} {i : TypeInfo} {d : TypeDesc} (hi : P.types[t]? = some i) (hd : P.underlying t = some d) : TyOk P t (tyFrom i d true) := by
  have hinfo : P.info? t = some i := by
    have ht : t < P.types.size := (Array.getElem?_eq_some_iff.1 hi).1
    simp only [Tables.info?, ht, if_true, hi]
  refine ⟨hd, i, hinfo, rfl, rfl, rfl, fun z hz => ?_, rfl, fun h => by simp [tyFrom] at h, fun fs hf => ?_⟩
  · simp only [tyFrom] at hz
    split at hz
    · rename_i v hv; exact ⟨v, hv, hz⟩
    · cases hz
  · simp only [tyFrom] at hf ⊢
    rw [hf]
theorem tyFrom_open {P : Program} {t : TypeId} {i : TypeInfo} {d : TypeDesc} (hi : P.types[t]? = some i) (hd : P.underlying t = some d) (h1 : P.eqGuardType P.depth t = false) (h2 : P.stoodInHeld t = false) : TyOk P t (tyFrom i d false) := by
  obtain ⟨a1, i', a2, a3, a4, a5, a6, a7, _, a8⟩ := tyFrom_ok hi hd
  exact ⟨a1, i', a2, a3, a4, a5, a6, a7, fun _ => ⟨h1, h2⟩, a8⟩
/-- What the proof asks of a function's row. -/
def FnOk (P : Program) (f : FuncId) (g : Func) : Prop := P.funcs[f]? = some g ∧ (g.body.isSome = true → g.name ≠ "runtime.NumGoroutine")
theorem env_ok {P : Program} {E : Env} (h1 : T.All (TyOk P) E.ty 1 0) (h2 : T.All (FnOk P) E.fn 1 0)
    (h3 : ∀ f n, E.ext.get f = some n → ∀ (args : List AV) (v : AV) (φ : Phi) (vs : Array Value) (w : World), extV n args = some v → VRels φ args vs.toList → ∃ x, (callFunc f vs).run P w = .ok (.value x) w ∧ VRel φ v x)
    (h4 : E.rt = P.rt) (h5 : P.follows .mixedOrders = true) : E.Ok P :=
  ⟨fun _ _ h => h1.get0 h, fun _ _ h => (h2.get0 h).1, h3, fun _ _ h => (h2.get0 h).2, h4, h5⟩
end Go.Av

/- Calls whose answers are known already: they touch nothing that was there. -/
namespace Go.Av
section
variable {P : Program} {E : Env}

/-- What is known of calls of plain values. -/
abbrev Tbl := FuncId → List AV → Option AV
noncomputable def orc (tbl : Tbl) (R : Rec) : Rec :=
  ⟨R.code, fun f args up h => Option.rec (motive := fun _ => FuncId → List AV → Option Md → Heap → Option Rs) (fun f args up h => R.call f args up h) (fun v f args up h => Option.rec (motive := fun _ => AV → FuncId → List AV → Heap → Option Rs) (fun v _ _ h => some (.ret v none h)) (fun u _ f args h => R.call f args (some u) h) up v f args h) (tbl f args) f args up h, R.leave, R.scope⟩
/-- A row of the table: the evaluator answers so, of no memory. -/
def TblOk (P : Program) (E : Env) (tbl : Tbl) : Prop := ∀ f args v, tbl f args = some v → (∃ fn, E.fn.get f = some fn ∧ fn.body.isSome = true) ∧
  ∀ (w : World) (args' : Array Value), VRels noPhi args args'.toList → ∀ cs, ∃ fr w', Steps P (lone (Frame.enter P f args' .normal) cs w) (lone fr cs w') ∧ (fr.fn = f ∧ fr.kind = .normal ∧ fr.mode = .returning ∧ fr.defers = [] ∧ ∃ fn x, P.funcs[fr.fn]? = some fn ∧ (results fn fr.tmps).run P w' = .ok x w' ∧ VRel noPhi v x) ∧ More w w'
/-- Values without places. -/
def plain : AV → Bool
  | .bool _ | .int .. | .str _ | .ptr none | .nilFunc | .nilIface | .map none => true
  | _ => false
theorem plain_rel {φ ψ : Phi} {v : AV} {x : Value} (hp : plain v = true) (h : VRel φ v x) : VRel ψ v x := by
  unfold plain at hp
  split at hp <;> first | (simp only [VRel] at h ⊢; exact h) | cases hp
theorem plains_rel {φ ψ : Phi} : ∀ {vs : List AV} {xs : List Value}, vs.all plain = true → VRels φ vs xs → VRels ψ vs xs
  | [], _, _, h => by simpa only [VRels] using h
  | v :: vs, _, hp, h => by
    simp only [List.all_cons, Bool.and_eq_true] at hp
    simp only [VRels] at h
    obtain ⟨y, ys, rfl, h1, h2⟩ := h
    exact .cons (plain_rel hp.1 h1) (plains_rel hp.2 h2)
theorem tbl_row {n : Nat} {f : FuncId} {args : List AV} {v : AV} {up : Option Md} {h' : Heap} (hE : E.Ok P) (hp : plain v = true) (hc : (aev E n).call f args none noHeap = some (.ret v up h')) :
    (∃ fn, E.fn.get f = some fn ∧ fn.body.isSome = true) ∧ ∀ (w : World) (args' : Array Value), VRels noPhi args args'.toList → ∀ cs, ∃ fr w', Steps P (lone (Frame.enter P f args' .normal) cs w) (lone fr cs w') ∧ (fr.fn = f ∧ fr.kind = .normal ∧ fr.mode = .returning ∧ fr.defers = [] ∧ ∃ fn x, P.funcs[fr.fn]? = some fn ∧ (results fn fr.tmps).run P w' = .ok x w' ∧ VRel noPhi v x) ∧ More w w' := by
  refine ⟨(aev_ok hE n).has f args none noHeap _ hc, fun w args' ha cs => ?_⟩
  obtain ⟨φ', fr, cs', w', hst, hg, hu, hH, hX⟩ := (aev_ok hE n).call f args none noHeap _ hc noPhi .normal cs cs w args' ha ⟨rfl, rfl⟩ (noHeap_rel w)
  obtain ⟨g1, g2, g3, g4, fn, x, g5, g6, g7⟩ := hg
  have hcs : cs' = cs := by
    cases up with
    | none => exact hu.2
    | some m => have := hu.1; cases this
  subst hcs
  exact ⟨fr, w', hst, ⟨g1, g2, g3, g4, fn, x, g5, g6, plain_rel hp g7⟩, fun b hb => hX.old b hb fun _ _ e => (noPhi_some e).elim, hX.size, hX.os, hX.tape, hX.output⟩
/-- Of plain arguments alone. -/
def TblPlain (tbl : Tbl) : Prop := ∀ f args v, tbl f args = some v → args.all plain = true
theorem orc_ok {tbl : Tbl} (hT : TblOk P E tbl) (hP : TblPlain tbl) {R : Rec} (hR : AllOk P E R) : AllOk P E (orc tbl R) := by
  refine ⟨hR.code, hR.scope, ?_, hR.leave, ?_, hR.loop⟩
  · intro f args up h r hc φ kind cs₀ cs w args' ha hu H
    have hc : Option.rec (motive := fun _ => FuncId → List AV → Option Md → Heap → Option Rs) (fun f args up h => R.call f args up h) (fun v f args up h => Option.rec (motive := fun _ => AV → FuncId → List AV → Heap → Option Rs) (fun v _ _ h => some (.ret v none h)) (fun u _ f args h => R.call f args (some u) h) up v f args h) (tbl f args) f args up h = some r := hc
    cases ht : tbl f args with
    | none => rw [ht] at hc; exact hR.call f args up h r hc φ kind cs₀ cs w args' ha hu H
    | some v =>
      rw [ht] at hc
      cases up with
      | some u => exact hR.call f args (some u) h r hc φ kind cs₀ cs w args' ha hu H
      | none =>
        have hc : some (Rs.ret v none h) = some r := hc
        cases hc
        obtain ⟨rfl, rfl⟩ := hu
        obtain ⟨fr, w', hst, ⟨g1, g2, g3, g4, fn, x, g5, g6, g7⟩, M⟩ := (hT f args v ht).2 w args' (plains_rel (hP f args v ht) ha) cs
        have hle : noPhi.le φ := fun _ _ e => (noPhi_some e).elim
        exact ⟨φ, fr, cs, w', hst, ⟨g1, g2, g3, g4, fn, x, g5, g6, g7.mono hle⟩, ⟨rfl, rfl⟩, H.more M, (Ext.refl φ h w).more M⟩
  · intro f args up h r hc
    have hc : Option.rec (motive := fun _ => FuncId → List AV → Option Md → Heap → Option Rs) (fun f args up h => R.call f args up h) (fun v f args up h => Option.rec (motive := fun _ => AV → FuncId → List AV → Heap → Option Rs) (fun v _ _ h => some (.ret v none h)) (fun u _ f args h => R.call f args (some u) h) up v f args h) (tbl f args) f args up h = some r := hc
    cases ht : tbl f args with
    | none => rw [ht] at hc; exact hR.has f args up h r hc
    | some v => exact (hT f args v ht).1
/-- The evaluator, with the table. -/
noncomputable def aevO (E : Env) (tbl : Tbl) : Nat → Rec
  | 0 => rec0
  | n + 1 => stepR E (orc tbl (aevO E tbl n))
theorem aevO_ok {tbl : Tbl} (hE : E.Ok P) (hT : TblOk P E tbl) (hP : TblPlain tbl) : ∀ n, AllOk P E (aevO E tbl n)
  | 0 => rec0_ok
  | n + 1 => have h := orc_ok hT hP (aevO_ok hE hT hP n); step_ok hE h (draw_ok hE h)
noncomputable def kaevO (E : Env) (tbl : Tbl) (n : Nat) : Rec := Nat.rec (motive := fun _ => Rec) rec0 (fun _ R => kStep E (orc tbl R)) n
theorem kaevO_eq (E : Env) (tbl : Tbl) (n : Nat) : kaevO E tbl n = aevO E tbl n := by
  induction n with
  | zero => rfl
  | succ n ih =>
    change kStep E (orc tbl (kaevO E tbl n)) = _
    rw [kStep_eq, ih]; rfl
/-- One function, called of nothing, answers true. -/
noncomputable def oneTrue (f : FuncId) : Tbl := fun g args => Bool.rec (motive := fun _ => List AV → Option AV) (fun _ => none) (fun args => List.rec (motive := fun _ => Option AV) (some (.bool true)) (fun _ _ _ => none) args) (Nat.beq g f) args
theorem oneTrue_some {f g : FuncId} {args : List AV} {v : AV} (h : oneTrue f g args = some v) : g = f ∧ args = [] ∧ v = .bool true := by
  unfold oneTrue at h
  cases hb : Nat.beq g f with
  | false => rw [hb] at h; cases h
  | true =>
    rw [hb] at h
    cases args with
    | nil => cases h; exact ⟨Nat.eq_of_beq_eq_true hb, rfl, rfl⟩
    | cons x xs => cases h
theorem oneTrue_ok (hE : E.Ok P) {n : Nat} {f : FuncId} (hc : isTrue ((kaev E n).call f [] none noHeap) = true) : TblOk P E (oneTrue f) := by
  rw [kaev_eq] at hc
  obtain ⟨up, hp, hc⟩ := isTrue_of hc
  intro g args v h
  obtain ⟨rfl, rfl, rfl⟩ := oneTrue_some h
  exact tbl_row hE rfl hc
theorem oneTrue_plain (f : FuncId) : TblPlain (oneTrue f) := by
  intro g args v h
  obtain ⟨rfl, rfl, rfl⟩ := oneTrue_some h
  rfl
/-- A call that answers true, where one that it calls is known to. -/
theorem calls_trueO (hE : E.Ok P) {tbl : Tbl} (hT : TblOk P E tbl) (hP : TblPlain tbl) (n : Nat) {f : FuncId} {args : List AV} (hc : isTrue ((kaevO E tbl n).call f args none noHeap) = true) (w : World) {args' : Array Value} (ha : VRels noPhi args args'.toList) :
    Calls P f args' w fun e w' => e = .returned (.bool true) ∧ RowKit.Below w.heap.size w w' := by
  rw [kaevO_eq] at hc
  obtain ⟨up, hp, hc⟩ := isTrue_of hc
  intro cs
  obtain ⟨φ', fr, cs', w', hst, hg, hu, hH, hX⟩ := (aevO_ok hE hT hP n).call f args none noHeap _ hc noPhi .normal cs cs w args' ha ⟨rfl, rfl⟩ (noHeap_rel w)
  obtain ⟨g1, g2, g3, g4, fn, x, g5, g6, g7⟩ := hg
  have hcs : cs' = cs := by
    cases up with
    | none => exact hu.2
    | some m => have := hu.1; cases this
  subst hcs
  simp only [VRel] at g7
  subst g7
  exact ⟨.returned (.bool true), w', fr, ⟨rfl, hX.below⟩, hst, g1, g3, g4, g2, fn, g5, g6⟩
end
end Go.Av

/- A long run in parts: between two parts the memory is told anew, what nobody names any more left away. -/
namespace Go.Av
section
variable {P : Program} {E : Env}

/-! ### Values told anew: s tells of each new block which old one it is -/
mutual
def eqR (s : List Nat) : AV → AV → Bool
  | .undef, y => match y with | .undef => true | _ => false
  | .bool a, y => match y with | .bool b => a == b | _ => false
  | .int j a, y => match y with | .int k b => decide (j = k) && a == b | _ => false
  | .str a, y => match y with | .str b => a == b | _ => false
  | .ptr none, y => match y with | .ptr none => true | _ => false
  | .ptr (some p), y => match y with | .ptr (some q) => s[p.1]? == some q.1 && p.2 == q.2 | _ => false
  | .slice none l (.known c), y => match y with | .slice none m (.known e) => l == m && c == e | _ => false
  | .slice none _ (.room _), _ => false
  | .slice (some p) l (.known c), y => match y with | .slice (some q) m (.known e) => s[p.1]? == some q.1 && p.2 == q.2 && l == m && c == e | _ => false
  | .slice (some p) l (.room c), y => match y with | .slice (some q) m (.room e) => s[p.1]? == some q.1 && p.2 == q.2 && l == m && c == e | _ => false
  | .map none, y => match y with | .map none => true | _ => false
  | .map (some a), y => match y with | .map (some b) => s[a]? == some b | _ => false
  | .func f a b, y => match y with | .func g c e => f == g && eqRs s a c && eqRs s b e | _ => false
  | .yield _, _ => false
  | .nilFunc, y => match y with | .nilFunc => true | _ => false
  | .iface t v, y => match y with | .iface u w => t == u && eqR s v w | _ => false
  | .nilIface, y => match y with | .nilIface => true | _ => false
  | .agg a, y => match y with | .agg b => eqRs s a b | _ => false
  | .tuple a, y => match y with | .tuple b => eqRs s a b | _ => false
def eqRs (s : List Nat) : List AV → List AV → Bool
  | [], y => match y with | [] => true | _ => false
  | x :: xs, y => match y with | y :: ys => eqR s x y && eqRs s xs ys | _ => false
end
/-- The map of blocks behind it. -/
def Phi.via (φ : Phi) (s : List Nat) : Phi := fun B => (s[B]?).bind φ
theorem Phi.via_some {φ : Phi} {s : List Nat} {B : Nat} {L : Loc} : φ.via s B = some L ↔ ∃ b, s[B]? = some b ∧ φ b = some L := by
  unfold Phi.via; exact Option.bind_eq_some_iff
variable {φ : Phi} {s : List Nat}
mutual
theorem eqR_rel : ∀ {x y : AV} {v : Value}, eqR s x y = true → VRel φ y v → VRel (φ.via s) x v
  | .undef, y, v, h, r => by cases y <;> simp only [eqR, Bool.false_eq_true] at h; simpa only [VRel] using r
  | .bool a, y, v, h, r => by
    cases y <;> simp only [eqR, Bool.false_eq_true, beq_iff_eq] at h
    subst h; simpa only [VRel] using r
  | .int j a, y, v, h, r => by
    cases y <;> simp only [eqR, Bool.false_eq_true, Bool.and_eq_true, decide_eq_true_eq, beq_iff_eq] at h
    obtain ⟨rfl, rfl⟩ := h; simpa only [VRel] using r
  | .str a, y, v, h, r => by
    cases y <;> simp only [eqR, Bool.false_eq_true, beq_iff_eq] at h
    subst h; simpa only [VRel] using r
  | .ptr none, y, v, h, r => by
    cases y with
    | ptr a => cases a with
      | none => simpa only [VRel] using r
      | some q => simp [eqR] at h
    | _ => simp [eqR] at h
  | .ptr (some p), y, v, h, r => by
    cases y with
    | ptr a => cases a with
      | none => simp [eqR] at h
      | some q =>
        simp only [eqR, Bool.and_eq_true, beq_iff_eq] at h
        simp only [VRel] at r ⊢
        obtain ⟨L, h1, h2⟩ := r
        exact ⟨L, Phi.via_some.2 ⟨_, h.1, h1⟩, by rw [h.2]; exact h2⟩
    | _ => simp [eqR] at h
  | .slice none l (.known c), y, v, h, r => by
    cases y with
    | slice a m e => cases a with
      | none => cases e with
        | known e =>
          simp only [eqR, Bool.and_eq_true, beq_iff_eq] at h
          obtain ⟨rfl, rfl⟩ := h
          simpa only [VRel, SlRel] using r
        | room e => simp [eqR] at h
      | some q => simp [eqR] at h
    | _ => simp [eqR] at h
  | .slice none l (.room c), y, v, h, r => by simp [eqR] at h
  | .slice (some p) l (.known c), y, v, h, r => by
    cases y with
    | slice a m e => cases a with
      | none => simp [eqR] at h
      | some q => cases e with
        | known e =>
          simp only [eqR, Bool.and_eq_true, beq_iff_eq] at h
          obtain ⟨⟨⟨h1, h2⟩, rfl⟩, rfl⟩ := h
          simp only [VRel, SlRel] at r ⊢
          obtain ⟨L, o, g1, g2⟩ := r
          exact ⟨L, o, Phi.via_some.2 ⟨_, h1, g1⟩, by rw [h2]; exact g2⟩
        | room e => simp [eqR] at h
    | _ => simp [eqR] at h
  | .slice (some p) l (.room c), y, v, h, r => by
    cases y with
    | slice a m e => cases a with
      | none => simp [eqR] at h
      | some q => cases e with
        | known e => simp [eqR] at h
        | room e =>
          simp only [eqR, Bool.and_eq_true, beq_iff_eq] at h
          obtain ⟨⟨⟨h1, h2⟩, rfl⟩, rfl⟩ := h
          simp only [VRel, SlRel] at r ⊢
          obtain ⟨L, o, c', g1, g2⟩ := r
          exact ⟨L, o, c', Phi.via_some.2 ⟨_, h1, g1⟩, by rw [h2]; exact g2⟩
    | _ => simp [eqR] at h
  | .map none, y, v, h, r => by
    cases y with
    | map a => cases a with
      | none => simpa only [VRel] using r
      | some q => simp [eqR] at h
    | _ => simp [eqR] at h
  | .map (some p), y, v, h, r => by
    cases y with
    | map a => cases a with
      | none => simp [eqR] at h
      | some q =>
        simp only [eqR, beq_iff_eq] at h
        simp only [VRel] at r ⊢
        obtain ⟨L, h1, h2⟩ := r
        exact ⟨L, Phi.via_some.2 ⟨_, h, h1⟩, h2⟩
    | _ => simp [eqR] at h
  | .func f a b, y, v, h, r => by
    cases y <;> simp only [eqR, Bool.false_eq_true, Bool.and_eq_true, beq_iff_eq] at h
    obtain ⟨⟨rfl, h1⟩, h2⟩ := h
    simp only [VRel] at r ⊢
    obtain ⟨a', c', g1, g2, g3⟩ := r
    exact ⟨a', c', g1, eqRs_rel h1 g2, eqRs_rel h2 g3⟩
  | .yield l, y, v, h, r => by simp [eqR] at h
  | .nilFunc, y, v, h, r => by cases y <;> simp only [eqR, Bool.false_eq_true] at h; simpa only [VRel] using r
  | .iface t x, y, v, h, r => by
    cases y <;> simp only [eqR, Bool.false_eq_true, Bool.and_eq_true, beq_iff_eq] at h
    obtain ⟨rfl, h1⟩ := h
    simp only [VRel] at r ⊢
    obtain ⟨z, g1, g2⟩ := r
    exact ⟨z, g1, eqR_rel h1 g2⟩
  | .nilIface, y, v, h, r => by cases y <;> simp only [eqR, Bool.false_eq_true] at h; simpa only [VRel] using r
  | .agg a, y, v, h, r => by
    cases y <;> simp only [eqR, Bool.false_eq_true] at h
    simp only [VRel] at r ⊢
    obtain ⟨z, g1, g2⟩ := r
    exact ⟨z, g1, eqRs_rel h g2⟩
  | .tuple a, y, v, h, r => by
    cases y <;> simp only [eqR, Bool.false_eq_true] at h
    simp only [VRel] at r ⊢
    obtain ⟨z, g1, g2⟩ := r
    exact ⟨z, g1, eqRs_rel h g2⟩
theorem eqRs_rel : ∀ {xs ys : List AV} {vs : List Value}, eqRs s xs ys = true → VRels φ ys vs → VRels (φ.via s) xs vs
  | [], ys, vs, h, r => by cases ys <;> simp only [eqRs, Bool.false_eq_true] at h; simpa only [VRels] using r
  | x :: xs, ys, vs, h, r => by
    cases ys with
    | nil => simp [eqRs] at h
    | cons y ys =>
      simp only [eqRs, Bool.and_eq_true] at h
      simp only [VRels] at r
      obtain ⟨z, zs, rfl, g1, g2⟩ := r
      exact .cons (eqR_rel h.1 g1) (eqRs_rel h.2 g2)
end
theorem eqR_one {x y : AV} (h : eqR s x y = true) (hy : y.one = true) : x.one = true := by
  cases x with
  | undef => cases y <;> simp [eqR, AV.one] at h hy
  | agg c => cases y <;> simp [eqR, AV.one] at h hy
  | tuple c => cases y <;> simp [eqR, AV.one] at h hy
  | _ => rfl

/-! ### A cut -/
inductive NB where
  | cells (vs : List AV) (e : TypeId) (ro : Bool)
  | map (es : List (AV × AV × Nat)) (clock : Nat)
  | dead
structure Cut where
  tm : List (Nat × AV)
  blks : List NB
  /-- of each block: which one it was -/
  was : List Nat
def NB.blk : NB → Blk
  | .cells vs e ro => .cells (T.ofL vs 0 .leaf) vs.length e ro
  | .map es k => .map es k
  | .dead => .dead
def setAll (l : List (Nat × AV)) (t : T AV) : T AV := l.foldr (fun p t => t.set p.1 p.2) t
def Cut.st (c : Cut) : St := ⟨setAll c.tm .leaf, [], none, ⟨T.ofL (c.blks.map NB.blk) 0 .leaf, c.blks.length⟩⟩
def esR (s : List Nat) : List (AV × AV × Nat) → List (AV × AV × Nat) → Bool
  | [], y => match y with | [] => true | _ => false
  | x :: xs, y => match y with | y :: ys => eqR s x.1 y.1 && eqR s x.2.1 y.2.1 && x.2.2 == y.2.2 && esR s xs ys | _ => false
def cellsR (s : List Nat) (c : T AV) : List AV → Nat → Bool
  | [], _ => true
  | x :: xs, i => (match c.get i with | some y => eqR s x y | none => false) && cellsR s c xs (i + 1)
def blkR (s : List Nat) (b : NB) (o : Option Blk) : Bool :=
  match b, o with
  | .cells vs e ro, some (.cells c n e' ro') => n == vs.length && e == e' && ro == ro' && cellsR s c vs 0
  | .map es k, some (.map es' k') => k == k' && esR s es es'
  | .dead, _ => true
  | _, _ => false
def blksR (s : List Nat) (h : Heap) : List NB → List Nat → Bool
  | [], y => match y with | [] => true | _ => false
  | b :: bs, y => match y with | o :: os => blkR s b (h.b.get o) && blksR s h bs os | _ => false
def nodupB : List Nat → Bool
  | [] => true
  | x :: xs => !xs.contains x && nodupB xs
def tmR (s : List Nat) (t : T AV) : List (Nat × AV) → Bool
  | [] => true
  | p :: ps => (match t.get p.1 with | some y => eqR s p.2 y | none => false) && tmR s t ps
/-- Is what has been run told rightly by the cut? -/
def cutOk (c : Cut) (r : Option (Ex × St)) : Bool :=
  match r with
  | some (.normal, t) => (match t.df with | [] => true | _ => false) && (match t.up with | none => true | _ => false) && tmR c.was t.tm c.tm && blksR c.was t.hp c.blks c.was && nodupB c.was
  | _ => false
theorem setAll_get {l : List (Nat × AV)} {t : T AV} {i : Nat} {v : AV} (h : (setAll l t).get i = some v) : (i, v) ∈ l ∨ t.get i = some v := by
  induction l with
  | nil => exact .inr h
  | cons p l ih =>
    simp only [setAll, List.foldr_cons] at h ih
    rw [T.get_set] at h
    split at h
    · rename_i e
      cases h
      subst e
      exact .inl (by simp)
    · exact (ih h).imp (List.mem_cons_of_mem _) id
theorem tmR_get {t : T AV} : ∀ {l : List (Nat × AV)}, tmR s t l = true → ∀ i v, (i, v) ∈ l → ∃ y, t.get i = some y ∧ eqR s v y = true
  | [], _, i, v, h => by simp at h
  | p :: ps, h, i, v, hm => by
    simp only [tmR, Bool.and_eq_true] at h
    rcases List.mem_cons.1 hm with e | hm
    · subst e
      cases hg : t.get i with
      | none => simp only [hg] at h; exact absurd h.1 (by simp)
      | some y => simp only [hg] at h; exact ⟨y, rfl, h.1⟩
    · exact tmR_get h.2 i v hm
theorem blksR_get {h : Heap} : ∀ {bs : List NB} {os : List Nat}, blksR s h bs os = true → bs.length = os.length ∧ ∀ (i : Nat) (b : NB), bs[i]? = some b → ∃ o, os[i]? = some o ∧ blkR s b (h.b.get o) = true
  | [], os, hh => by
    cases os with
    | nil => exact ⟨rfl, fun i b hb => by simp at hb⟩
    | cons o os => simp [blksR] at hh
  | b :: bs, os, hh => by
    cases os with
    | nil => simp [blksR] at hh
    | cons o os =>
      simp only [blksR, Bool.and_eq_true] at hh
      obtain ⟨h1, h2⟩ := blksR_get hh.2
      refine ⟨by simp [h1], fun i b' hb => ?_⟩
      cases i with
      | zero => simp at hb; subst hb; exact ⟨o, rfl, hh.1⟩
      | succ i => simp at hb; obtain ⟨o', g1, g2⟩ := h2 i b' hb; exact ⟨o', by simpa using g1, g2⟩
theorem cellsR_get {c : T AV} : ∀ {vs : List AV} {i : Nat}, cellsR s c vs i = true → ∀ (j : Nat) (v : AV), vs[j]? = some v → ∃ y, c.get (i + j) = some y ∧ eqR s v y = true
  | [], i, _, j, v, h => by simp at h
  | x :: xs, i, h, j, v, hv => by
    simp only [cellsR, Bool.and_eq_true] at h
    cases j with
    | zero =>
      simp at hv; subst hv
      cases hg : c.get i with
      | none => simp only [hg] at h; exact absurd h.1 (by simp)
      | some y => simp only [hg] at h; exact ⟨_, rfl, h.1⟩
    | succ j =>
      obtain ⟨y, g1, g2⟩ := cellsR_get h.2 j v (by simpa using hv)
      exact ⟨y, by rw [show i + (j + 1) = i + 1 + j by omega]; exact g1, g2⟩
theorem esR_rel : ∀ {es es' : List (AV × AV × Nat)} {l : List MapEntry}, esR s es es' = true → ERel φ es' l → ERel (φ.via s) es l
  | [], es', l, h, r => by cases es' <;> simp only [esR, Bool.false_eq_true] at h; exact r
  | x :: xs, es', l, h, r => by
    cases es' with
    | nil => simp [esR] at h
    | cons y ys =>
      simp only [esR, Bool.and_eq_true, beq_iff_eq] at h
      obtain ⟨z, zs, g1, g2, g3, g4, g5⟩ := r
      exact ⟨z, zs, g1, eqR_rel h.1.1.1 g2, eqR_rel h.1.1.2 g3, h.1.2.trans g4, esR_rel h.2 g5⟩
theorem blkR_rel {b : NB} {o : Option Blk} {L : Loc} {x : Option Obj} (h : blkR s b o = true) (r : BRel E φ L o x) : BRel E (φ.via s) L (some b.blk) x := by
  unfold blkR at h
  split at h
  · rename_i vs e ro c n e' ro'
    simp only [Bool.and_eq_true, beq_iff_eq] at h
    obtain ⟨⟨⟨h1, rfl⟩, rfl⟩, h2⟩ := h
    obtain ⟨cs, fr, g1, g2⟩ := r
    refine ⟨cs, fr, g1, g2.size, by have := g2.fits; omega, g2.elem, fun i v hv => ?_, fun i hi => ?_, g2.open_⟩
    · rw [T.get_ofL, T.get_leaf] at hv
      split at hv
      · rename_i hi
        rw [Nat.sub_zero] at hv
        obtain ⟨y, k1, k2⟩ := cellsR_get h2 i v hv
        rw [Nat.zero_add] at k1
        obtain ⟨k3, k4, z, k5, k6⟩ := g2.get i y k1
        exact ⟨by omega, eqR_one k2 k4, z, k5, eqR_rel k2 k6⟩
      · cases hv
    · rw [T.get_ofL, if_pos (by omega), Nat.sub_zero]
      exact ⟨vs[i], by simp [hi]⟩
  · rename_i es k es' k'
    simp only [Bool.and_eq_true, beq_iff_eq] at h
    obtain ⟨rfl, h2⟩ := h
    obtain ⟨es2, g1, g2⟩ := r
    exact ⟨es2, g1, esR_rel h2 g2⟩
  · trivial
  · cases h
theorem nodupB_inj : ∀ {l : List Nat}, nodupB l = true → ∀ (i j x : Nat), l[i]? = some x → l[j]? = some x → i = j
  | [], _, i, j, x, h, _ => by simp at h
  | y :: ys, h, i, j, x, hi, hj => by
    simp only [nodupB, Bool.and_eq_true, Bool.not_eq_true'] at h
    cases i with
    | zero =>
      cases j with
      | zero => rfl
      | succ j =>
        simp at hi hj; subst hi
        have := List.mem_of_getElem? hj
        rw [← List.contains_iff_mem] at this
        rw [h.1] at this; cases this
    | succ i =>
      cases j with
      | zero =>
        simp at hi hj; subst hj
        have := List.mem_of_getElem? hi
        rw [← List.contains_iff_mem] at this
        rw [h.1] at this; cases this
      | succ j => rw [nodupB_inj h.2 i j x (by simpa using hi) (by simpa using hj)]
/-- The state told anew stands to the machine, too. -/
theorem cut_rel {c : Cut} {t : St} (h : cutOk c (some (.normal, t)) = true) {cx : Cx} {cs : List Frame} {a : Act} {w w0 : World} (r : SRel E φ cx .normal cs t a cs w) (X : Ext noPhi noHeap w0 φ t.hp w) :
    SRel E (φ.via c.was) cx .normal cs c.st a cs w ∧ Ext noPhi noHeap w0 (φ.via c.was) c.st.hp w := by
  simp only [cutOk, Bool.and_eq_true] at h
  obtain ⟨⟨⟨⟨hdf, hup⟩, htm⟩, hbl⟩, hnd⟩ := h
  have hdf' : t.df = [] := by cases hd : t.df with | nil => rfl | cons d ds => simp [hd] at hdf
  obtain ⟨hlen, hget⟩ := blksR_get hbl
  have hwas : ∀ B b, c.was[B]? = some b → B < c.blks.length := fun B b e => by rw [hlen]; exact (List.getElem?_eq_some_iff.1 e).1
  have hat : ∀ B b, c.was[B]? = some b → ∃ nb, c.blks[B]? = some nb ∧ blkR c.was nb (t.hp.b.get b) = true := fun B b e => by
    have hB := hwas B b e
    obtain ⟨o, h1, h2⟩ := hget B c.blks[B] (List.getElem?_eq_getElem hB)
    rw [e] at h1; cases h1
    exact ⟨_, List.getElem?_eq_getElem hB, h2⟩
  have hblk : ∀ B nb, c.blks[B]? = some nb → c.st.hp.b.get B = some nb.blk := fun B nb e => by
    have hB := (List.getElem?_eq_some_iff.1 e).1
    simp only [Cut.st, T.get_ofL, List.length_map]
    rw [if_pos (by omega), Nat.sub_zero, List.getElem?_map, e]; rfl
  have hnext : c.st.hp.next = c.blks.length := rfl
  refine ⟨⟨⟨r.tm.size, fun i v hv => ?_⟩, ?_, ⟨rfl, rfl⟩, ⟨fun B L e => ?_, fun B B' L L' e e' he h1 h2 => ?_, fun B L e => ?_, fun B hB => ?_⟩⟩, ?_⟩
  · rcases setAll_get hv with hm | hm
    · obtain ⟨y, g1, g2⟩ := tmR_get htm i v hm
      obtain ⟨g3, g4⟩ := r.tm.get i y g1
      exact ⟨g3, eqR_rel g2 g4⟩
    · rw [T.get_leaf] at hm; cases hm
  · have := r.df
    rw [hdf'] at this
    exact this
  · obtain ⟨b, g1, g2⟩ := Phi.via_some.1 e
    exact ⟨hwas B b g1, (r.hp.dom b L g2).2⟩
  · obtain ⟨b, g1, g2⟩ := Phi.via_some.1 e
    obtain ⟨b', g1', g2'⟩ := Phi.via_some.1 e'
    obtain ⟨nb, k1, k2⟩ := hat B b g1
    obtain ⟨nb', k1', k2'⟩ := hat B' b' g1'
    rw [hblk B nb k1] at h1
    rw [hblk B' nb' k1'] at h2
    have live : ∀ {nb : NB} {o : Option Blk}, some nb.blk ≠ some Blk.dead → blkR c.was nb o = true → o ≠ some .dead := by
      intro nb o hn hr ho
      subst ho
      cases nb <;> simp_all [blkR, NB.blk]
    have := r.hp.inj b b' L L' g2 g2' he (live h1 k2) (live h2 k2')
    subst this
    exact nodupB_inj hnd B B' b g1 g1'
  · obtain ⟨b, g1, g2⟩ := Phi.via_some.1 e
    obtain ⟨nb, k1, k2⟩ := hat B b g1
    rw [hblk B nb k1]
    exact blkR_rel k2 (r.hp.blk b L g2)
  · simp only [Cut.st, T.get_ofL, List.length_map]
    rw [if_neg (by rw [hnext] at hB; omega), T.get_leaf]
  · refine ⟨fun B L e => (noPhi_some e).elim, fun B L e => ?_, Nat.zero_le _, X.size, fun B hB => absurd hB (Nat.not_lt_zero _), fun B hB => absurd hB (Nat.not_lt_zero _), X.old, X.os, X.tape, X.output⟩
    obtain ⟨b, g1, g2⟩ := Phi.via_some.1 e
    refine .inr ⟨rfl, Nat.zero_le _, hwas B b g1, ?_⟩
    rcases X.new b L g2 with g | ⟨_, _, _, g⟩
    · exact (noPhi_some g).elim
    · rcases g with g | ⟨B0, L0, g, _⟩
      · exact .inl g
      · exact (noPhi_some g).elim

/-! ### A function's body in parts -/
def base (f : FuncId) : Frame := { fn := f, tmps := #[], todo := [], defers := [], mode := .run, kind := .normal }
/-- A frame that hands back true. -/
def Back (P : Program) (fr : Frame) (f : FuncId) (w : World) : Prop := fr.fn = f ∧ fr.kind = .normal ∧ fr.mode = .returning ∧ fr.defers = [] ∧ ∃ fn x, P.funcs[fr.fn]? = some fn ∧ (results fn fr.tmps).run P w = .ok x w ∧ VRel noPhi (.bool true) x
/-- From here the function comes to true, whatever the machine is that stands to the state. -/
def Good (P : Program) (E : Env) (f : FuncId) (nt : Nat) (c : Code) (s : St) : Prop := ∀ (w0 : World) (cs : List Frame) (a : Act) (w : World) (φ : Phi), SRel E φ ⟨f, nt, none⟩ .normal cs s a cs w → Ext noPhi noHeap w0 φ s.hp w →
  ∃ fr w', Steps P (lone ((base f).atR a [.code c]) cs w) (lone fr cs w') ∧ Back P fr f w' ∧ More w0 w'
theorem Ext.more0 {h : Heap} {w w0 : World} (X : Ext noPhi noHeap w0 φ h w) : More w0 w := ⟨fun b hb => X.old b hb fun _ _ e => (noPhi_some e).elim, X.size, X.os, X.tape, X.output⟩
theorem good_last {R : Rec} (hR : AllOk P E R) {f : FuncId} {fn : Func} (hf : P.funcs[f]? = some fn) {c : Code} {s : St} (h : isTrue (kEnd (R.code ⟨f, fn.ntmps, none⟩ c s) R fn) = true) : Good P E f fn.ntmps c s := by
  intro w0 cs a w φ hr X
  cases hc : R.code ⟨f, fn.ntmps, none⟩ c s with
  | none => rw [hc] at h; cases h
  | some p =>
    obtain ⟨ex, s'⟩ := p
    rw [hc] at h
    have ha := hR.code _ _ _ _ _ hc φ (base f) a cs cs w [] ⟨rfl, rfl⟩ hr
    obtain ⟨φ', a', cs', w', hg, ht, hd, hu', hH, hX⟩ := ha
    have hX := Ext.trans (noHeap_rel (E := E) w0) X hX
    have leave : ∀ m fr, isTrue (R.leave fn s' m) = true → Steps P (lone ((base f).atR a [.code c]) cs w) (lone fr cs' w') → fr.fn = f → fr.kind = .normal → MdRel φ' m fr.mode → fr.tmps = a'.tmps → fr.defers = a'.defers →
        (((∃ c, m = .panicking c) ∧ s'.df = []) ∨ TRel φ' s'.tm fn.ntmps a'.tmps) → ∃ fr w', Steps P (lone ((base f).atR a [.code c]) cs w) (lone fr cs w') ∧ Back P fr f w' ∧ More w0 w' := by
      intro m fr hl hs h1 h2 h3 h4 h5 h6
      obtain ⟨up, hp, hl⟩ := isTrue_of hl
      obtain ⟨φ2, fr2, cs2, w2, g1, g2, g3, g4, g5⟩ := hR.leave _ _ _ _ hl φ' fr f .normal cs cs' w' hf h1 h2 h3 (by rw [h4]; exact h6) (by rw [h5]; exact hd) hu' hH
      obtain ⟨k1, k2, k3, k4, fn', x, k5, k6, k7⟩ := g2
      have hcs : cs2 = cs := by
        cases up with
        | none => exact g3.2
        | some m => have := g3.1; cases this
      subst hcs
      simp only [VRel] at k7
      exact ⟨fr2, w2, hs.trans g1, ⟨k1, k2, k3, k4, fn', x, k5, k6, by simp only [VRel]; exact k7⟩, (Ext.trans (noHeap_rel (E := E) w0) hX g5).more0⟩
    cases ex with
    | normal => exact leave .returning { (base f).atR a' [] with mode := .returning } h (hg.trans (.one (stepR_end rfl))) rfl rfl rfl rfl rfl (.inr (ht.resolve_left (by rintro ⟨⟨c, hc⟩, _⟩; cases hc)))
    | ret =>
      obtain ⟨k1, hs⟩ := hg
      exact leave .returning { (base f).atR a' (.code .ret :: k1) with mode := .returning } h (hs.trans (.one (stepR_ret rfl))) rfl rfl rfl rfl rfl (.inr (ht.resolve_left (by rintro ⟨⟨c, hc⟩, _⟩; cases hc)))
    | panic pc =>
      obtain ⟨todo, l, hch, hs⟩ := hg
      exact leave (.panicking pc) { (base f).atR a' todo with mode := .panicking l } h hs rfl rfl ⟨l, rfl, hch⟩ rfl rfl (ht.imp (fun h => ⟨⟨pc, rfl⟩, h.2⟩) id)
    | exit id => cases h
    | goto l => cases h
/-- The first k statements more, and the rest. -/
def cutL : Nat → Code → Option (Code × Code)
  | 0, .seq a b => some (a, b)
  | k + 1, .seq a b => (cutL k b).map fun p => (.seq a p.1, p.2)
  | _, _ => none
theorem good_cut {tbl : Tbl} (hE : E.Ok P) (hT : TblOk P E tbl) (hP : TblPlain tbl) {f : FuncId} {nt : Nat} : ∀ (k n : Nat) (c A B : Code) (s : St) (ct : Cut), cutL k c = some (A, B) → cutOk ct ((aevO E tbl n).code ⟨f, nt, none⟩ A s) = true → Good P E f nt B ct.st → Good P E f nt c s := by
  intro k
  induction k with
  | zero =>
    intro n c A B s ct hc hok hB w0 cs a w φ hr X
    cases c with
    | seq x y =>
      simp only [cutL, Option.some.injEq, Prod.mk.injEq] at hc
      obtain ⟨h1, h2⟩ := hc
      subst h1
      subst h2
      cases hA : (aevO E tbl n).code ⟨f, nt, none⟩ x s with
      | none => rw [hA] at hok; cases hok
      | some p =>
        obtain ⟨ex, s1⟩ := p
        rw [hA] at hok
        cases ex with
        | normal =>
          have ha := (aevO_ok hE hT hP n).code _ _ _ _ _ hA φ (base f) a cs cs w [.code y] ⟨rfl, rfl⟩ hr
          obtain ⟨φ1, a1, cs1, w1, hst, hr1, hX1⟩ := ha.normal
          have hdu : s1.df = [] ∧ s1.up = none := by
            simp only [cutOk, Bool.and_eq_true] at hok
            obtain ⟨⟨⟨⟨h1, h2⟩, _⟩, _⟩, _⟩ := hok
            exact ⟨by cases hd : s1.df with | nil => rfl | cons d ds => simp [hd] at h1, by cases hd : s1.up with | none => rfl | some d => simp [hd] at h2⟩
          have hcs : cs1 = cs := by have := hr1.up; rw [hdu.2] at this; exact this.2
          subst hcs
          obtain ⟨hr2, hX2⟩ := cut_rel hok hr1 (Ext.trans (noHeap_rel (E := E) w0) X hX1)
          obtain ⟨fr, w', g1, g2, g3⟩ := hB w0 _ a1 w1 _ hr2 hX2
          exact ⟨fr, w', ((Steps.one stepR_seq).trans hst).trans g1, g2, g3⟩
        | _ => cases hok
    | _ => simp [cutL] at hc
  | succ k ih =>
    intro n c A B s ct hc hok hB w0 cs a w φ hr X
    cases c with
    | seq x y =>
      simp only [cutL, Option.map_eq_some_iff, Prod.mk.injEq] at hc
      obtain ⟨⟨A', B'⟩, h1, rfl, rfl⟩ := hc
      cases n with
      | zero => cases hok
      | succ n =>
        have e : (aevO E tbl (n + 1)).code ⟨f, nt, none⟩ (.seq x A') s = (do
            match ← (aevO E tbl n).code ⟨f, nt, none⟩ x s with
            | (.normal, s) => (aevO E tbl n).code ⟨f, nt, none⟩ A' s
            | r => some r) := rfl
        rw [e] at hok
        cases hx : (aevO E tbl n).code ⟨f, nt, none⟩ x s with
        | none => rw [hx] at hok; cases hok
        | some p =>
          obtain ⟨ex, s1⟩ := p
          rw [hx] at hok
          cases ex with
          | normal =>
            have ha := (aevO_ok hE hT hP n).code _ _ _ _ _ hx φ (base f) a cs cs w [.code y] ⟨rfl, rfl⟩ hr
            obtain ⟨φ1, a1, cs1, w1, hst, hr1, hX1⟩ := ha.normal
            have hcs : cs1 = cs := by
              have hu := hr1.up
              cases hup : s1.up with
              | none => rw [hup] at hu; exact hu.2
              | some m => rw [hup] at hu; have := hu.1; cases this
            subst hcs
            obtain ⟨fr, w', g1, g2, g3⟩ := ih n y A' B' s1 ct h1 hok hB w0 _ a1 w1 φ1 hr1 (Ext.trans (noHeap_rel (E := E) w0) X hX1)
            exact ⟨fr, w', ((Steps.one stepR_seq).trans hst).trans g1, g2, g3⟩
          | _ => cases hok
    | _ => simp [cutL] at hc
/-- No rows. -/
def tbl0 : Tbl := fun _ _ => none
theorem tbl0_ok : TblOk P E tbl0 := fun _ _ _ h => by cases h
theorem tbl0_plain : TblPlain tbl0 := fun _ _ _ h => by cases h
/-- The code of a function; the first k statements more of code, and the rest. -/
def codeOf (fn : Func) : Code := match fn.body with | some c => c | none => .skip
def fore (k : Nat) (c : Code) : Code := match cutL k c with | some p => p.1 | none => .skip
def aft (k : Nat) (c : Code) : Code := match cutL k c with | some p => p.2 | none => .skip
theorem good_part (hE : E.Ok P) {f : FuncId} {nt : Nat} (k n : Nat) {c : Code} {s : St} {ct : Cut} (hc : (cutL k c).isSome = true) (hok : cutOk ct ((kaevO E tbl0 n).code ⟨f, nt, none⟩ (fore k c) s) = true) (hB : Good P E f nt (aft k c) ct.st) : Good P E f nt c s := by
  cases h : cutL k c with
  | none => rw [h] at hc; cases hc
  | some p =>
    rw [kaevO_eq] at hok
    have h1 : fore k c = p.1 := by simp [fore, h]
    have h2 : aft k c = p.2 := by simp [aft, h]
    rw [h1] at hok
    rw [h2] at hB
    exact good_cut hE tbl0_ok tbl0_plain k n c p.1 p.2 s ct h hok hB
theorem good_end (hE : E.Ok P) {f : FuncId} {fn : Func} (n : Nat) (hf : P.funcs[f]? = some fn) {c : Code} {s : St} (h : isTrue (kEnd ((kaevO E tbl0 n).code ⟨f, fn.ntmps, none⟩ c s) (kaevO E tbl0 n) fn) = true) : Good P E f fn.ntmps c s := by
  rw [kaevO_eq] at h
  exact good_last (aevO_ok hE tbl0_ok tbl0_plain n) hf h
/-- A function that comes to true from its start: a row of the table. -/
theorem good_row (hE : E.Ok P) {f : FuncId} {fn : Func} (hf : E.fn.get f = some fn) {c : Code} (hc : fn.body = some c) (h : Good P E f fn.ntmps c ⟨.leaf, [], none, noHeap⟩) : TblOk P E (oneTrue f) := by
  intro g args v hg
  obtain ⟨rfl, rfl, rfl⟩ := oneTrue_some hg
  refine ⟨⟨fn, hf, by rw [hc]; rfl⟩, fun w args' ha cs => ?_⟩
  have hPf := hE.fn g fn hf
  have henter : Frame.enter P g args' .normal = (base g).atR { tmps := args' ++ Array.replicate (fn.ntmps - args'.size) Go.undef, defers := [] } [.code c] := by
    simp [Frame.enter, Frame.atR, hPf, hc, base]
  rw [henter]
  obtain ⟨fr, w', g1, g2, g3⟩ := h w cs { tmps := args' ++ Array.replicate (fn.ntmps - args'.size) Go.undef, defers := [] } w noPhi ⟨tmps_rel ha (Nat.zero_le _), rfl, ⟨rfl, rfl⟩, noHeap_rel w⟩ (.refl ..)
  exact ⟨fr, w', g1, g2, g3⟩
/-! ### Arguments that lead to memory that is not looked at -/
theorem calls_trueD (hE : E.Ok P) {tbl : Tbl} (hT : TblOk P E tbl) (hP : TblPlain tbl) (n : Nat) {f : FuncId} {args : List AV} {h : Heap} (hd : ∀ B, ¬ Mod h B) (hc : isTrue ((kaevO E tbl n).call f args none h) = true) {φ : Phi} {w : World} (H : HRel E φ h w) {args' : Array Value} (ha : VRels φ args args'.toList) :
    Calls P f args' w fun e w' => e = .returned (.bool true) ∧ RowKit.Below w.heap.size w w' := by
  rw [kaevO_eq] at hc
  obtain ⟨up, hp, hc⟩ := isTrue_of hc
  intro cs
  obtain ⟨φ', fr, cs', w', hst, hg, hu, hH, hX⟩ := (aevO_ok hE hT hP n).call f args none h _ hc φ .normal cs cs w args' ha ⟨rfl, rfl⟩ H
  obtain ⟨g1, g2, g3, g4, fn, x, g5, g6, g7⟩ := hg
  have hcs : cs' = cs := by
    cases up with
    | none => exact hu.2
    | some m => have := hu.1; cases this
  subst hcs
  simp only [VRel] at g7
  subst g7
  exact ⟨.returned (.bool true), w', fr, ⟨rfl, hX.os, hX.tape, hX.output, hX.size, fun k hk => hX.old k hk fun B _ _ _ => hd B⟩, hst, g1, g3, g4, g2, fn, g5, g6⟩
/-- One block, of which nothing is known. -/
noncomputable def oneDead : Heap := ⟨T.leaf.set 0 .dead, 1⟩
theorem oneDead_get (B : Nat) : oneDead.b.get B = if B = 0 then some .dead else none := by
  unfold oneDead; rw [T.get_set, T.get_leaf]
theorem oneDead_mod (B : Nat) : ¬ Mod oneDead B := by
  unfold Mod
  rw [oneDead_get]
  split <;> simp_all
def atPhi (L : Loc) : Phi := fun B => if B = 0 then some L else none
theorem oneDead_rel {w : World} {L : Loc} (hL : L.b < w.heap.size) : HRel E (atPhi L) oneDead w := by
  have key : ∀ B K, atPhi L B = some K → B = 0 ∧ K = L := fun B K e => by
    unfold atPhi at e
    split at e
    · cases e; exact ⟨by assumption, rfl⟩
    · cases e
  refine ⟨fun B K e => ?_, fun B B' K K' e e' _ _ _ => ?_, fun B K e => ?_, fun B hB => ?_⟩
  · obtain ⟨rfl, rfl⟩ := key B K e; exact ⟨Nat.zero_lt_one, hL⟩
  · rw [(key B K e).1, (key B' K' e').1]
  · rw [oneDead_get, if_pos (key B K e).1]; trivial
  · rw [oneDead_get, if_neg (by have : oneDead.next = 1 := rfl; omega)]
end
end Go.Av
