/- Regions that draw their order: whatever order is drawn, the machine comes to what the evaluator answers (aev_ok). Conditions: as in the first part. -/
import Derived.Test.YtbjagcfbjfgkmaaGreatAv2
import Derived.Test.YtbjagcfbjfgkmaaGreatAv1
/- What an operation of each kind does to the evaluator's state. -/
namespace Go.Av
section
variable {E : Env} {R : Rec} {cx : Cx}

theorem valR_val {st st' : St} {x : Option AV} {v : AV} (h : valR st x = some (.val v st')) : x = some v ∧ st' = st := by
  cases x <;> simp [valR] at h; exact ⟨by rw [h.1], h.2.symm⟩
theorem laid_val {st st' : St} {x : Option Heap} {u v : AV} (h : laid st x u = some (.val v st')) : ∃ h', x = some h' ∧ v = u ∧ st' = st.at h' := by
  cases x <;> simp [laid] at h; exact ⟨_, rfl, h.1.symm, h.2.symm⟩
/-- It only reckons. -/
theorem reck_go {op : Op} (hk : kindOf E op = .reck) {st st' : St} {v : AV} (h : opGo E R cx op st = some (.val v st')) :
    st' = st ∧ ∀ st2 : St, st2.tm = st.tm → opGo E R cx op st2 = some (.val v st2) := by
  cases op <;> simp only [kindOf, reduceCtorEq] at hk <;> simp only [opGo] at h ⊢
  case move x => obtain ⟨h1, rfl⟩ := valR_val h; exact ⟨rfl, fun st2 e => by rw [e, h1]; rfl⟩
  case assign x => obtain ⟨h1, rfl⟩ := valR_val h; exact ⟨rfl, fun st2 e => by rw [e, h1]; rfl⟩
  case pick c a b =>
    simp only [oPick, Option.bind_eq_bind, Option.bind_eq_some_iff] at h
    obtain ⟨c', hc, h⟩ := h
    split at h
    · obtain ⟨h1, rfl⟩ := valR_val h; exact ⟨rfl, fun st2 e => by simp [oPick, e, hc, h1, valR]⟩
    · cases h
  case build t ps =>
    simp only [oBuild, Option.bind_eq_bind, Option.bind_eq_some_iff] at h
    obtain ⟨vs, hvs, h⟩ := h
    obtain ⟨h1, rfl⟩ := valR_val h; exact ⟨rfl, fun st2 e => by simp [oBuild, e, hvs, h1, valR]⟩
  case nilCheck x =>
    simp only [oNilCheck, Option.bind_eq_bind, Option.bind_eq_some_iff] at h
    obtain ⟨u, hu, h⟩ := h
    split at h
    · cases h; exact ⟨rfl, fun st2 e => by simp [oNilCheck, e, hu]⟩
    · cases h; exact ⟨rfl, fun st2 e => by simp [oNilCheck, e, hu]⟩
    · cases h
  case binOp o t x y z =>
    simp only [oBinOp, Option.bind_eq_bind, Option.bind_eq_some_iff] at h
    obtain ⟨u, hu, u', hu', h⟩ := h
    obtain ⟨h1, rfl⟩ := valR_val h; exact ⟨rfl, fun st2 e => by simp [oBinOp, e, hu, hu', h1, valR]⟩
  case unOp o t x =>
    simp only [oUnOp, Option.bind_eq_bind, Option.bind_eq_some_iff] at h
    obtain ⟨u, hu, h⟩ := h
    obtain ⟨h1, rfl⟩ := valR_val h; exact ⟨rfl, fun st2 e => by simp [oUnOp, e, hu, h1, valR]⟩
  case convert src dst x =>
    simp only [oConvert, Option.bind_eq_bind, Option.bind_eq_some_iff] at h
    obtain ⟨s, hs, d, hd, u, hu, h⟩ := h
    rw [hs, hd] at hk
    simp only at hk
    split at h
    · rename_i h1 h2; rw [h1, h2] at hk; cases hk
    · rename_i h1 h2; rw [h1, h2] at hk; cases hk
    · rename_i hn1 hn2
      obtain ⟨h1, rfl⟩ := valR_val h
      refine ⟨rfl, fun st2 e => ?_⟩
      simp only [oConvert, hs, hd, e, hu, Option.bind_eq_bind, Option.bind_some]
      rw [h1]; rfl
  case makeInterface t x =>
    simp only [oMakeInterface, Option.bind_eq_bind, Option.bind_eq_some_iff] at h
    obtain ⟨ty, hty, u, hu, h⟩ := h
    split at h
    · cases h
    · rename_i hn
      cases h
      refine ⟨rfl, fun st2 e => ?_⟩
      simp only [oMakeInterface, hty, e, hu, Option.bind_eq_bind, Option.bind_some]
  case makeFunc f a b =>
    simp only [oMakeFunc, Option.bind_eq_bind, Option.bind_eq_some_iff] at h
    obtain ⟨u, hu, u', hu', h⟩ := h
    split at h
    · cases h; exact ⟨rfl, fun st2 e => by simp [oMakeFunc, e, hu, hu']⟩
    · cases h
  case slice t x lo hi mx =>
    simp only [oSlice, Option.bind_eq_bind, Option.bind_eq_some_iff] at h
    obtain ⟨u, hu, l, hl, hh, hhi, m, hm, h⟩ := h
    obtain ⟨h1, rfl⟩ := valR_val h; exact ⟨rfl, fun st2 e => by simp [oSlice, e, hu, hl, hhi, hm, h1, valR]⟩
  case fieldAddr s x f =>
    simp only [oFieldAddr, Option.bind_eq_bind, Option.bind_eq_some_iff] at h
    obtain ⟨u, hu, h⟩ := h
    obtain ⟨h1, rfl⟩ := valR_val h; exact ⟨rfl, fun st2 e => by simp [oFieldAddr, e, hu, h1, valR]⟩
  case field s x f =>
    simp only [oField, Option.bind_eq_bind, Option.bind_eq_some_iff] at h
    obtain ⟨u, hu, h⟩ := h
    obtain ⟨h1, rfl⟩ := valR_val h; exact ⟨rfl, fun st2 e => by simp [oField, e, hu, h1, valR]⟩
  case indexAddr s x f =>
    simp only [oIndexAddr, Option.bind_eq_bind, Option.bind_eq_some_iff] at h
    obtain ⟨u, hu, u', hu', h⟩ := h
    obtain ⟨h1, rfl⟩ := valR_val h; exact ⟨rfl, fun st2 e => by simp [oIndexAddr, e, hu, hu', h1, valR]⟩
  case index s x f =>
    simp only [oIndex, Option.bind_eq_bind, Option.bind_eq_some_iff] at h
    obtain ⟨u, hu, u', hu', h⟩ := h
    obtain ⟨h1, rfl⟩ := valR_val h; exact ⟨rfl, fun st2 e => by simp [oIndex, e, hu, hu', h1, valR]⟩
  case extract x i =>
    simp only [oExtract, Option.bind_eq_bind, Option.bind_eq_some_iff] at h
    obtain ⟨u, hu, h⟩ := h
    split at h
    · obtain ⟨h1, rfl⟩ := valR_val h; exact ⟨rfl, fun st2 e => by simp [oExtract, e, hu, h1, valR]⟩
    · cases h
  case typeAssert x xt asserted ok =>
    simp only [oTypeAssert, Option.bind_eq_bind, Option.bind_eq_some_iff] at h
    obtain ⟨ta, hta, u, hu, h⟩ := h
    have same : ∀ st2 : St, st2.tm = st.tm → oTypeAssert E st2 x asserted ok = (match (generalizing := false) ta.d, u with
        | .interface _, _ => none
        | _, .iface t v =>
          if t = asserted then some (.val (if ok then .tuple [v, .bool true] else v) st2)
          else if ok then (do
            let z ← ta.zero
            some (.val (.tuple [z, .bool false]) st2))
          else do
            let te ← E.t E.rt.typeAssertionError
            match te.d with
            | .pointer _ => some (.pan [(.iface E.rt.typeAssertionError (.ptr (some (st2.hp.next, 0))), false)] (st2.at (newBlk st2.hp .dead)))
            | _ => none
        | _, .nilIface => if ok then (do
            let z ← ta.zero
            some (.val (.tuple [z, .bool false]) st2)) else none
        | _, _ => none) := by
      intro st2 e
      simp only [oTypeAssert, hta, e, hu, Option.bind_eq_bind, Option.bind_some]
      rfl
    split at h
    · cases h
    · rename_i t v' hni
      split at h
      · rename_i ht
        cases h
        refine ⟨rfl, fun st2 e => ?_⟩
        rw [same st2 e]
        simp [ht]
      · rename_i ht
        split at h
        · rename_i hok
          simp only [Option.bind_eq_some_iff, Option.some.injEq] at h
          obtain ⟨z, hz, h⟩ := h
          cases h
          refine ⟨rfl, fun st2 e => ?_⟩
          rw [same st2 e]
          simp [ht, hok, hz]
        · simp only [Option.bind_eq_some_iff] at h
          obtain ⟨te, hte, h⟩ := h
          split at h <;> cases h
    · rename_i hni
      split at h
      · rename_i hok
        simp only [Option.bind_eq_some_iff, Option.some.injEq] at h
        obtain ⟨z, hz, h⟩ := h
        cases h
        refine ⟨rfl, fun st2 e => ?_⟩
        rw [same st2 e]
        simp [hok, hz]
      · cases h
    · cases h
  case call c =>
    split at hk <;> cases hk
theorem builtin_len {ts : List TypeId} {vs : List AV} {st : St} : builtinV E cx .len ts vs st = (match ts, vs with
    | [t], [x] => (lenV E st.hp t x).map fun n => .val (.int .i64 (.ofNat n)) st
    | _, _ => none) := by
  rcases ts with _ | ⟨t, _ | ⟨t2, ts⟩⟩ <;> rcases vs with _ | ⟨x, _ | ⟨x2, vs⟩⟩ <;> rfl
theorem loadVar_b {h h2 : Heap} (e : h2.b = h.b) {t : TypeId} {b o : Nat} : loadVar E h2 t b o = loadVar E h t b o := by simp only [loadVar, e]
theorem mapAt_b {h h2 : Heap} (e : h2.b = h.b) {r : Option Nat} : mapAt h2 r = mapAt h r := by cases r <;> simp only [mapAt, e]
theorem lenV_b {h h2 : Heap} (e : h2.b = h.b) {t : TypeId} {x : AV} : lenV E h2 t x = lenV E h t x := by simp only [lenV, e]
theorem firstV_b {h h2 : Heap} (e : h2.b = h.b) {size n : Nat} {x : AV} : firstV h2 size n x = firstV h size n x := by unfold firstV; rw [e]
/-- It looks at memory. -/
theorem look_go {op : Op} (hk : kindOf E op = .look) {st st' : St} {v : AV} (h : opGo E R cx op st = some (.val v st')) :
    st' = st ∧ ∀ st2 : St, st2.tm = st.tm → st2.hp.b = st.hp.b → opGo E R cx op st2 = some (.val v st2) := by
  cases op <;> simp only [kindOf, reduceCtorEq] at hk <;> simp only [opGo] at h ⊢
  case load t x =>
    simp only [oLoad, Option.bind_eq_bind, Option.bind_eq_some_iff] at h
    obtain ⟨u, hu, h⟩ := h
    split at h
    · obtain ⟨h1, rfl⟩ := valR_val h; exact ⟨rfl, fun st2 e e' => by simp only [oLoad, e, hu, Option.bind_eq_bind, Option.bind_some]; rw [loadVar_b e', h1]; rfl⟩
    · cases h
  case lookup t m k ok =>
    simp only [oLookup, Option.bind_eq_bind, Option.bind_eq_some_iff] at h
    obtain ⟨ty, hty, u, hu, h⟩ := h
    split at h
    · simp only [Option.bind_eq_some_iff] at h
      obtain ⟨kv, hkv, h⟩ := h
      split at h
      · rename_i hd
        split at h
        · rename_i hkey
          simp only [Option.bind_eq_some_iff] at h
          obtain ⟨es, hes, te, hte, f, hf, h⟩ := h
          split at h
          · cases h
            exact ⟨rfl, fun st2 e e' => by simp [oLookup, hty, e, mapAt_b e', hu, hkv, hd, hkey, hes, hte, hf]⟩
          · simp only [Option.bind_eq_some_iff, Option.some.injEq] at h
            obtain ⟨z, hz, h⟩ := h
            cases h
            exact ⟨rfl, fun st2 e e' => by simp [oLookup, hty, e, mapAt_b e', hu, hkv, hd, hkey, hes, hte, hf, hz]⟩
        · cases h
      · cases h
    · cases h
  case call c =>
    split at hk
    · rename_i hc
      simp only [oCall, hc, Option.bind_eq_bind, Option.bind_eq_some_iff] at h
      obtain ⟨vs, hvs, h⟩ := h
      rw [builtin_len] at h
      split at h
      · rename_i t x hts
        simp only [Option.map_eq_some_iff] at h
        obtain ⟨n, hn, h⟩ := h
        cases h
        refine ⟨rfl, fun st2 e e' => ?_⟩
        simp only [oCall, hc, Option.bind_eq_bind, e, hvs, Option.bind_some]
        rw [builtin_len, hts]
        simp only [lenV_b e']
        simp [hn]
      · cases h
    · cases hk
  case convert src dst x =>
    simp only [oConvert, Option.bind_eq_bind, Option.bind_eq_some_iff] at h
    obtain ⟨s, hs, d, hd, u, hu, h⟩ := h
    rw [hs, hd] at hk
    simp only at hk
    split at h
    · rename_i h1 h2
      simp only [Option.bind_eq_some_iff] at h
      obtain ⟨te, hte, h⟩ := h
      split at h
      · rename_i h3
        simp only [Option.bind_eq_some_iff] at h
        obtain ⟨cs, hcs, h⟩ := h
        obtain ⟨h4, rfl⟩ := valR_val h
        obtain ⟨bs, hb, rfl⟩ := Option.map_eq_some_iff.1 h4
        exact ⟨rfl, fun st2 e e' => by simp [oConvert, hs, hd, e, firstV_b e', hu, h1, h2, hte, h3, hcs, hb, valR]⟩
      · cases h
    · rename_i h1 h2; rw [h1, h2] at hk; cases hk
    · rename_i hn1 hn2
      obtain ⟨h1, rfl⟩ := valR_val h
      refine ⟨rfl, fun st2 e _ => ?_⟩
      simp only [oConvert, hs, hd, e, hu, Option.bind_eq_bind, Option.bind_some]
      rw [h1]; rfl
theorem newRow_go {h h' : Heap} {e : TypeId} {cs : List AV} (hr : newRow h e cs = some h') : ∃ x, h' = newBlk h x ∧ ∀ h2 : Heap, newRow h2 e cs = some (newBlk h2 x) := by
  unfold newRow at hr
  split at hr
  · rename_i h1
    cases hr
    exact ⟨_, rfl, fun h2 => by simp [newRow, h1]⟩
  · cases hr
/-- It lays one block. -/
theorem lay_go {op : Op} (hk : kindOf E op = .lay) {st st' : St} {v : AV} (h : opGo E R cx op st = some (.val v st')) :
    ∃ x, st' = st.at (newBlk st.hp x) ∧ ∀ st2 : St, st2.tm = st.tm → st2.hp.next = st.hp.next → opGo E R cx op st2 = some (.val v (st2.at (newBlk st2.hp x))) := by
  cases op <;> simp only [kindOf, reduceCtorEq] at hk <;> simp only [opGo] at h ⊢
  case alloc t =>
    simp only [oAlloc, Option.bind_eq_bind, Option.bind_eq_some_iff] at h
    obtain ⟨ty, hty, z, hz, h⟩ := h
    obtain ⟨h', h1, rfl, rfl⟩ := laid_val h
    obtain ⟨x, rfl, h2⟩ := newRow_go h1
    exact ⟨x, rfl, fun st2 e e' => by simp [oAlloc, hty, hz, h2, laid, e']⟩
  case box t y =>
    simp only [oBox, Option.bind_eq_bind, Option.bind_eq_some_iff] at h
    obtain ⟨ty, hty, z, hz, h⟩ := h
    obtain ⟨h', h1, rfl, rfl⟩ := laid_val h
    obtain ⟨x, rfl, h2⟩ := newRow_go h1
    exact ⟨x, rfl, fun st2 e e' => by simp [oBox, hty, e, hz, h2, laid, e']⟩
  case buildSlice t len ps =>
    simp only [oBuildSlice, Option.bind_eq_bind, Option.bind_eq_some_iff] at h
    obtain ⟨ty, hty, vs, hvs, h⟩ := h
    split at h
    · rename_i el hd
      simp only [Option.bind_eq_some_iff] at h
      obtain ⟨te, hte, h⟩ := h
      split at h
      · rename_i hbig
        simp only [Option.bind_eq_some_iff] at h
        obtain ⟨zs, hzs, cs, hcs, h⟩ := h
        obtain ⟨h', h1, rfl, rfl⟩ := laid_val h
        obtain ⟨x, rfl, h2⟩ := newRow_go h1
        exact ⟨x, rfl, fun st2 e e' => by
          simp only [oBuildSlice, hty, e, hvs, hd, hte, hbig, Option.bind_eq_bind, Option.bind_some, if_true]
          rw [hzs]
          simp [hcs, h2, laid, e']⟩
      · cases h
    · cases h
  case makeMap t r =>
    simp only [oMakeMap, Option.bind_eq_bind, Option.bind_eq_some_iff] at h
    obtain ⟨ty, hty, u, hu, h⟩ := h
    split at h
    · rename_i hd
      cases h
      exact ⟨_, rfl, fun st2 e e' => by simp [oMakeMap, hty, e, hu, hd, e']⟩
    · rename_i hd
      cases h
      exact ⟨_, rfl, fun st2 e e' => by simp [oMakeMap, hty, e, hu, hd, e']⟩
    · cases h
  case makeSlice t l c =>
    simp only [oMakeSlice, Option.bind_eq_bind, Option.bind_eq_some_iff] at h
    obtain ⟨ty, hty, u, hu, h⟩ := h
    split at h
    · simp only [Option.bind_eq_some_iff] at h
      obtain ⟨u', hu', h⟩ := h
      split at h
      · split at h
        · rename_i el hd
          simp only [Option.bind_eq_some_iff] at h
          obtain ⟨te, hte, z, hz, h⟩ := h
          split at h
          · rename_i hc
            obtain ⟨h', h1, rfl, rfl⟩ := laid_val h
            obtain ⟨x, rfl, h2⟩ := newRow_go h1
            exact ⟨x, rfl, fun st2 e e' => by simp [oMakeSlice, hty, e, hu, hu', hd, hte, hz, hc, h2, laid, e']⟩
          · cases h
        · cases h
      · cases h
    · cases h
  case range t y =>
    simp only [oRange, Option.bind_eq_bind, Option.bind_eq_some_iff] at h
    obtain ⟨ty, hty, u, hu, h⟩ := h
    split at h
    · split at h
      · rename_i hd
        cases h
        exact ⟨_, rfl, fun st2 e e' => by simp [oRange, hty, e, hu, hd, e']⟩
      · cases h
    · cases h
  case call c =>
    split at hk <;> cases hk
  case convert src dst y =>
    simp only [oConvert, Option.bind_eq_bind, Option.bind_eq_some_iff] at h
    obtain ⟨s, hs, d, hd, u, hu, h⟩ := h
    rw [hs, hd] at hk
    simp only at hk
    split at h
    · rename_i h1 h2; rw [h1, h2] at hk; cases hk
    · rename_i h1 h2
      simp only [Option.bind_eq_some_iff] at h
      obtain ⟨te, hte, h⟩ := h
      split at h
      · rename_i h3
        split at h
        · rename_i h4
          obtain ⟨h', h5, rfl, rfl⟩ := laid_val h
          obtain ⟨x, rfl, h6⟩ := newRow_go h5
          refine ⟨x, rfl, fun st2 e e' => ?_⟩
          simp only [oConvert, hs, hd, e, hu, h1, h2, hte, h3, Option.bind_eq_bind, Option.bind_some]
          rw [if_pos h4, h6]
          simp [laid, e']
        · cases h
      · cases h
    · rename_i hn1 hn2
      obtain ⟨h1, rfl⟩ := valR_val h
      exfalso
      split at hk
      · cases hk
      · rename_i a1 a2
        rw [a1, a2] at h1
        unfold convV at h1
        split at h1 <;> simp_all
      · cases hk
/-- What is left keeps the slots. -/
def KT (st : St) (x : Option OR) : Prop := ∀ v st', x = some (.val v st') → st'.tm = st.tm
theorem KT.bind {α : Type} {st : St} {x : Option α} {f : α → Option OR} (h : ∀ a, KT st (f a)) : KT st (x.bind f) := by
  intro v st' e
  obtain ⟨a, _, h1⟩ := Option.bind_eq_some_iff.1 e
  exact h a v st' h1
theorem KT.map {α : Type} {st : St} {x : Option α} {f : α → OR} (h : ∀ a, KT st (some (f a))) : KT st (x.map f) := by
  intro v st' e
  obtain ⟨a, _, h1⟩ := Option.map_eq_some_iff.1 e
  exact h a v st' (by rw [h1])
theorem KT.none {st : St} : KT st none := fun _ _ e => by cases e
theorem KT.val {st st' : St} {v : AV} (h : st'.tm = st.tm) : KT st (some (.val v st')) := fun _ _ e => by cases e; exact h
theorem KT.pan {st st' : St} {c : Chain} : KT st (some (.pan c st')) := fun _ _ e => by cases e
theorem KT.valR {st : St} {x : Option AV} : KT st (Av.valR st x) := fun _ _ h => by rw [(valR_val h).2]
theorem KT.laid {st : St} {x : Option Heap} {u : AV} : KT st (Av.laid st x u) := fun _ _ h => by obtain ⟨h', _, _, rfl⟩ := laid_val h; rfl
theorem kt_append {ts tx : TypeId} {s x : AV} {st : St} : KT st (appendV E ts tx s x st) := by unfold appendV; ((try simp only [Option.bind_eq_bind]); repeat' (first | (refine KT.bind fun _ => ?_) | (refine KT.map fun _ => ?_) | exact KT.none | exact KT.pan | exact KT.valR | exact KT.laid | exact KT.val rfl | split))
theorem kt_copy {td : TypeId} {d x : AV} {st : St} : KT st (copyV E td d x st) := by unfold copyV; ((try simp only [Option.bind_eq_bind]); repeat' (first | (refine KT.bind fun _ => ?_) | (refine KT.map fun _ => ?_) | exact KT.none | exact KT.pan | exact KT.valR | exact KT.laid | exact KT.val rfl | split))
theorem kt_clear {t : TypeId} {x : AV} {st : St} : KT st (clearV E t x st) := by unfold clearV; ((try simp only [Option.bind_eq_bind]); repeat' (first | (refine KT.bind fun _ => ?_) | (refine KT.map fun _ => ?_) | exact KT.none | exact KT.pan | exact KT.valR | exact KT.laid | exact KT.val rfl | split))
theorem kt_delete {t : TypeId} {m k : AV} {st : St} : KT st (deleteV E t m k st) := by unfold deleteV; ((try simp only [Option.bind_eq_bind]); repeat' (first | (refine KT.bind fun _ => ?_) | (refine KT.map fun _ => ?_) | exact KT.none | exact KT.pan | exact KT.valR | exact KT.laid | exact KT.val rfl | split))
theorem kt_recover {st : St} : KT st (recoverV cx st) := by unfold recoverV; ((try simp only [Option.bind_eq_bind]); repeat' (first | (refine KT.bind fun _ => ?_) | (refine KT.map fun _ => ?_) | exact KT.none | exact KT.pan | exact KT.valR | exact KT.laid | exact KT.val rfl | split))
theorem kt_builtin {b : Builtin} {ts : List TypeId} {vs : List AV} {st : St} : KT st (builtinV E cx b ts vs st) := by
  unfold builtinV
  simp only [Option.bind_eq_bind]
  repeat' (first | exact kt_append | exact kt_copy | exact kt_clear | exact kt_delete | exact kt_recover | (refine KT.bind fun _ => ?_) | (refine KT.map fun _ => ?_) | exact KT.none | exact KT.val rfl | split)
theorem kt_go {op : Op} {st : St} : KT st (opGo E R cx op st) := by
  cases op <;> simp only [opGo] <;> first
    | exact KT.valR
    | exact KT.none
    | (unfold oPick; ((try simp only [Option.bind_eq_bind]); repeat' (first | (refine KT.bind fun _ => ?_) | (refine KT.map fun _ => ?_) | exact KT.none | exact KT.pan | exact KT.valR | exact KT.laid | exact KT.val rfl | split)); done)
    | (unfold oAlloc; ((try simp only [Option.bind_eq_bind]); repeat' (first | (refine KT.bind fun _ => ?_) | (refine KT.map fun _ => ?_) | exact KT.none | exact KT.pan | exact KT.valR | exact KT.laid | exact KT.val rfl | split)); done)
    | (unfold oBox; ((try simp only [Option.bind_eq_bind]); repeat' (first | (refine KT.bind fun _ => ?_) | (refine KT.map fun _ => ?_) | exact KT.none | exact KT.pan | exact KT.valR | exact KT.laid | exact KT.val rfl | split)); done)
    | (unfold oBuild; ((try simp only [Option.bind_eq_bind]); repeat' (first | (refine KT.bind fun _ => ?_) | (refine KT.map fun _ => ?_) | exact KT.none | exact KT.pan | exact KT.valR | exact KT.laid | exact KT.val rfl | split)); done)
    | (unfold oBuildSlice; ((try simp only [Option.bind_eq_bind]); repeat' (first | (refine KT.bind fun _ => ?_) | (refine KT.map fun _ => ?_) | exact KT.none | exact KT.pan | exact KT.valR | exact KT.laid | exact KT.val rfl | split)); done)
    | (unfold oLoad; ((try simp only [Option.bind_eq_bind]); repeat' (first | (refine KT.bind fun _ => ?_) | (refine KT.map fun _ => ?_) | exact KT.none | exact KT.pan | exact KT.valR | exact KT.laid | exact KT.val rfl | split)); done)
    | (unfold oStore; ((try simp only [Option.bind_eq_bind]); repeat' (first | (refine KT.bind fun _ => ?_) | (refine KT.map fun _ => ?_) | exact KT.none | exact KT.pan | exact KT.valR | exact KT.laid | exact KT.val rfl | split)); done)
    | (unfold oNilCheck; ((try simp only [Option.bind_eq_bind]); repeat' (first | (refine KT.bind fun _ => ?_) | (refine KT.map fun _ => ?_) | exact KT.none | exact KT.pan | exact KT.valR | exact KT.laid | exact KT.val rfl | split)); done)
    | (unfold oBinOp; ((try simp only [Option.bind_eq_bind]); repeat' (first | (refine KT.bind fun _ => ?_) | (refine KT.map fun _ => ?_) | exact KT.none | exact KT.pan | exact KT.valR | exact KT.laid | exact KT.val rfl | split)); done)
    | (unfold oUnOp; ((try simp only [Option.bind_eq_bind]); repeat' (first | (refine KT.bind fun _ => ?_) | (refine KT.map fun _ => ?_) | exact KT.none | exact KT.pan | exact KT.valR | exact KT.laid | exact KT.val rfl | split)); done)
    | (unfold oConvert; ((try simp only [Option.bind_eq_bind]); repeat' (first | (refine KT.bind fun _ => ?_) | (refine KT.map fun _ => ?_) | exact KT.none | exact KT.pan | exact KT.valR | exact KT.laid | exact KT.val rfl | split)); done)
    | (unfold oMakeInterface; ((try simp only [Option.bind_eq_bind]); repeat' (first | (refine KT.bind fun _ => ?_) | (refine KT.map fun _ => ?_) | exact KT.none | exact KT.pan | exact KT.valR | exact KT.laid | exact KT.val rfl | split)); done)
    | (unfold oMakeFunc; ((try simp only [Option.bind_eq_bind]); repeat' (first | (refine KT.bind fun _ => ?_) | (refine KT.map fun _ => ?_) | exact KT.none | exact KT.pan | exact KT.valR | exact KT.laid | exact KT.val rfl | split)); done)
    | (unfold oMakeMap; ((try simp only [Option.bind_eq_bind]); repeat' (first | (refine KT.bind fun _ => ?_) | (refine KT.map fun _ => ?_) | exact KT.none | exact KT.pan | exact KT.valR | exact KT.laid | exact KT.val rfl | split)); done)
    | (unfold oMakeSlice; ((try simp only [Option.bind_eq_bind]); repeat' (first | (refine KT.bind fun _ => ?_) | (refine KT.map fun _ => ?_) | exact KT.none | exact KT.pan | exact KT.valR | exact KT.laid | exact KT.val rfl | split)); done)
    | (unfold oSlice; ((try simp only [Option.bind_eq_bind]); repeat' (first | (refine KT.bind fun _ => ?_) | (refine KT.map fun _ => ?_) | exact KT.none | exact KT.pan | exact KT.valR | exact KT.laid | exact KT.val rfl | split)); done)
    | (unfold oFieldAddr; ((try simp only [Option.bind_eq_bind]); repeat' (first | (refine KT.bind fun _ => ?_) | (refine KT.map fun _ => ?_) | exact KT.none | exact KT.pan | exact KT.valR | exact KT.laid | exact KT.val rfl | split)); done)
    | (unfold oField; ((try simp only [Option.bind_eq_bind]); repeat' (first | (refine KT.bind fun _ => ?_) | (refine KT.map fun _ => ?_) | exact KT.none | exact KT.pan | exact KT.valR | exact KT.laid | exact KT.val rfl | split)); done)
    | (unfold oIndexAddr; ((try simp only [Option.bind_eq_bind]); repeat' (first | (refine KT.bind fun _ => ?_) | (refine KT.map fun _ => ?_) | exact KT.none | exact KT.pan | exact KT.valR | exact KT.laid | exact KT.val rfl | split)); done)
    | (unfold oIndex; ((try simp only [Option.bind_eq_bind]); repeat' (first | (refine KT.bind fun _ => ?_) | (refine KT.map fun _ => ?_) | exact KT.none | exact KT.pan | exact KT.valR | exact KT.laid | exact KT.val rfl | split)); done)
    | (unfold oLookup; ((try simp only [Option.bind_eq_bind]); repeat' (first | (refine KT.bind fun _ => ?_) | (refine KT.map fun _ => ?_) | exact KT.none | exact KT.pan | exact KT.valR | exact KT.laid | exact KT.val rfl | split)); done)
    | (unfold oMapUpdate; ((try simp only [Option.bind_eq_bind]); repeat' (first | (refine KT.bind fun _ => ?_) | (refine KT.map fun _ => ?_) | exact KT.none | exact KT.pan | exact KT.valR | exact KT.laid | exact KT.val rfl | split)); done)
    | (unfold oMapEntry; ((try simp only [Option.bind_eq_bind]); repeat' (first | (refine KT.bind fun _ => ?_) | (refine KT.map fun _ => ?_) | exact KT.none | exact KT.pan | exact KT.valR | exact KT.laid | exact KT.val rfl | split)); done)
    | (unfold oEntryStore; ((try simp only [Option.bind_eq_bind]); repeat' (first | (refine KT.bind fun _ => ?_) | (refine KT.map fun _ => ?_) | exact KT.none | exact KT.pan | exact KT.valR | exact KT.laid | exact KT.val rfl | split)); done)
    | (unfold oRange; ((try simp only [Option.bind_eq_bind]); repeat' (first | (refine KT.bind fun _ => ?_) | (refine KT.map fun _ => ?_) | exact KT.none | exact KT.pan | exact KT.valR | exact KT.laid | exact KT.val rfl | split)); done)
    | (unfold oNext; ((try simp only [Option.bind_eq_bind]); repeat' (first | (refine KT.bind fun _ => ?_) | (refine KT.map fun _ => ?_) | exact KT.none | exact KT.pan | exact KT.valR | exact KT.laid | exact KT.val rfl | split)); done)
    | (unfold oTypeAssert; ((try simp only [Option.bind_eq_bind]); repeat' (first | (refine KT.bind fun _ => ?_) | (refine KT.map fun _ => ?_) | exact KT.none | exact KT.pan | exact KT.valR | exact KT.laid | exact KT.val rfl | split)); done)
    | (unfold oExtract; ((try simp only [Option.bind_eq_bind]); repeat' (first | (refine KT.bind fun _ => ?_) | (refine KT.map fun _ => ?_) | exact KT.none | exact KT.pan | exact KT.valR | exact KT.laid | exact KT.val rfl | split)); done)
    | (unfold oDefer; ((try simp only [Option.bind_eq_bind]); repeat' (first | (refine KT.bind fun _ => ?_) | (refine KT.map fun _ => ?_) | exact KT.none | exact KT.pan | exact KT.valR | exact KT.laid | exact KT.val rfl | split)); done)
    | (unfold oPanic; ((try simp only [Option.bind_eq_bind]); repeat' (first | (refine KT.bind fun _ => ?_) | (refine KT.map fun _ => ?_) | exact KT.none | exact KT.pan | exact KT.valR | exact KT.laid | exact KT.val rfl | split)); done)
    | (unfold oCall; simp only [Option.bind_eq_bind]; repeat' (first | exact kt_builtin | (refine KT.bind fun _ => ?_) | exact KT.none | exact KT.pan | exact KT.val rfl | split))

/-- A panic leaves what is deferred. -/
def PD (st : St) (x : Option OR) : Prop := ∀ c st', x = some (.pan c st') → st'.df = st.df
theorem PD.bind {α : Type} {st : St} {x : Option α} {f : α → Option OR} (h : ∀ a, PD st (f a)) : PD st (x.bind f) := by
  intro v st' e
  obtain ⟨a, _, h1⟩ := Option.bind_eq_some_iff.1 e
  exact h a v st' h1
theorem PD.map {α : Type} {st : St} {x : Option α} {f : α → OR} (h : ∀ a, PD st (some (f a))) : PD st (x.map f) := by
  intro v st' e
  obtain ⟨a, _, h1⟩ := Option.map_eq_some_iff.1 e
  exact h a v st' (by rw [h1])
theorem PD.none {st : St} : PD st none := fun _ _ e => by cases e
theorem PD.val {st st' : St} {v : AV} : PD st (some (.val v st')) := fun _ _ e => by cases e
theorem PD.pan {st st' : St} {c : Chain} (h : st'.df = st.df) : PD st (some (.pan c st')) := fun _ _ e => by cases e; exact h
theorem PD.valR {st : St} {x : Option AV} : PD st (Av.valR st x) := by unfold Av.valR; exact PD.map fun _ => PD.val
theorem PD.laid {st : St} {x : Option Heap} {u : AV} : PD st (Av.laid st x u) := by unfold Av.laid; exact PD.map fun _ => PD.val
theorem pd_append {ts tx : TypeId} {s x : AV} {st : St} : PD st (appendV E ts tx s x st) := by unfold appendV; ((try simp only [Option.bind_eq_bind]); repeat' (first | (refine PD.bind fun _ => ?_) | (refine PD.map fun _ => ?_) | exact PD.none | exact PD.val | exact PD.valR | exact PD.laid | exact PD.pan rfl | split))
theorem pd_copy {td : TypeId} {d x : AV} {st : St} : PD st (copyV E td d x st) := by unfold copyV; ((try simp only [Option.bind_eq_bind]); repeat' (first | (refine PD.bind fun _ => ?_) | (refine PD.map fun _ => ?_) | exact PD.none | exact PD.val | exact PD.valR | exact PD.laid | exact PD.pan rfl | split))
theorem pd_clear {t : TypeId} {x : AV} {st : St} : PD st (clearV E t x st) := by unfold clearV; ((try simp only [Option.bind_eq_bind]); repeat' (first | (refine PD.bind fun _ => ?_) | (refine PD.map fun _ => ?_) | exact PD.none | exact PD.val | exact PD.valR | exact PD.laid | exact PD.pan rfl | split))
theorem pd_delete {t : TypeId} {m k : AV} {st : St} : PD st (deleteV E t m k st) := by unfold deleteV; ((try simp only [Option.bind_eq_bind]); repeat' (first | (refine PD.bind fun _ => ?_) | (refine PD.map fun _ => ?_) | exact PD.none | exact PD.val | exact PD.valR | exact PD.laid | exact PD.pan rfl | split))
theorem pd_recover {st : St} : PD st (recoverV cx st) := by unfold recoverV; ((try simp only [Option.bind_eq_bind]); repeat' (first | (refine PD.bind fun _ => ?_) | (refine PD.map fun _ => ?_) | exact PD.none | exact PD.val | exact PD.valR | exact PD.laid | exact PD.pan rfl | split))
theorem pd_builtin {b : Builtin} {ts : List TypeId} {vs : List AV} {st : St} : PD st (builtinV E cx b ts vs st) := by
  unfold builtinV
  simp only [Option.bind_eq_bind]
  repeat' (first | exact pd_append | exact pd_copy | exact pd_clear | exact pd_delete | exact pd_recover | (refine PD.bind fun _ => ?_) | (refine PD.map fun _ => ?_) | exact PD.none | exact PD.val | split)
theorem pd_go {op : Op} {st : St} : PD st (opGo E R cx op st) := by
  cases op <;> simp only [opGo] <;> first
    | exact PD.valR
    | exact PD.none
    | (unfold oPick; ((try simp only [Option.bind_eq_bind]); repeat' (first | (refine PD.bind fun _ => ?_) | (refine PD.map fun _ => ?_) | exact PD.none | exact PD.val | exact PD.valR | exact PD.laid | exact PD.pan rfl | split)); done)
    | (unfold oAlloc; ((try simp only [Option.bind_eq_bind]); repeat' (first | (refine PD.bind fun _ => ?_) | (refine PD.map fun _ => ?_) | exact PD.none | exact PD.val | exact PD.valR | exact PD.laid | exact PD.pan rfl | split)); done)
    | (unfold oBox; ((try simp only [Option.bind_eq_bind]); repeat' (first | (refine PD.bind fun _ => ?_) | (refine PD.map fun _ => ?_) | exact PD.none | exact PD.val | exact PD.valR | exact PD.laid | exact PD.pan rfl | split)); done)
    | (unfold oBuild; ((try simp only [Option.bind_eq_bind]); repeat' (first | (refine PD.bind fun _ => ?_) | (refine PD.map fun _ => ?_) | exact PD.none | exact PD.val | exact PD.valR | exact PD.laid | exact PD.pan rfl | split)); done)
    | (unfold oBuildSlice; ((try simp only [Option.bind_eq_bind]); repeat' (first | (refine PD.bind fun _ => ?_) | (refine PD.map fun _ => ?_) | exact PD.none | exact PD.val | exact PD.valR | exact PD.laid | exact PD.pan rfl | split)); done)
    | (unfold oLoad; ((try simp only [Option.bind_eq_bind]); repeat' (first | (refine PD.bind fun _ => ?_) | (refine PD.map fun _ => ?_) | exact PD.none | exact PD.val | exact PD.valR | exact PD.laid | exact PD.pan rfl | split)); done)
    | (unfold oStore; ((try simp only [Option.bind_eq_bind]); repeat' (first | (refine PD.bind fun _ => ?_) | (refine PD.map fun _ => ?_) | exact PD.none | exact PD.val | exact PD.valR | exact PD.laid | exact PD.pan rfl | split)); done)
    | (unfold oNilCheck; ((try simp only [Option.bind_eq_bind]); repeat' (first | (refine PD.bind fun _ => ?_) | (refine PD.map fun _ => ?_) | exact PD.none | exact PD.val | exact PD.valR | exact PD.laid | exact PD.pan rfl | split)); done)
    | (unfold oBinOp; ((try simp only [Option.bind_eq_bind]); repeat' (first | (refine PD.bind fun _ => ?_) | (refine PD.map fun _ => ?_) | exact PD.none | exact PD.val | exact PD.valR | exact PD.laid | exact PD.pan rfl | split)); done)
    | (unfold oUnOp; ((try simp only [Option.bind_eq_bind]); repeat' (first | (refine PD.bind fun _ => ?_) | (refine PD.map fun _ => ?_) | exact PD.none | exact PD.val | exact PD.valR | exact PD.laid | exact PD.pan rfl | split)); done)
    | (unfold oConvert; ((try simp only [Option.bind_eq_bind]); repeat' (first | (refine PD.bind fun _ => ?_) | (refine PD.map fun _ => ?_) | exact PD.none | exact PD.val | exact PD.valR | exact PD.laid | exact PD.pan rfl | split)); done)
    | (unfold oMakeInterface; ((try simp only [Option.bind_eq_bind]); repeat' (first | (refine PD.bind fun _ => ?_) | (refine PD.map fun _ => ?_) | exact PD.none | exact PD.val | exact PD.valR | exact PD.laid | exact PD.pan rfl | split)); done)
    | (unfold oMakeFunc; ((try simp only [Option.bind_eq_bind]); repeat' (first | (refine PD.bind fun _ => ?_) | (refine PD.map fun _ => ?_) | exact PD.none | exact PD.val | exact PD.valR | exact PD.laid | exact PD.pan rfl | split)); done)
    | (unfold oMakeMap; ((try simp only [Option.bind_eq_bind]); repeat' (first | (refine PD.bind fun _ => ?_) | (refine PD.map fun _ => ?_) | exact PD.none | exact PD.val | exact PD.valR | exact PD.laid | exact PD.pan rfl | split)); done)
    | (unfold oMakeSlice; ((try simp only [Option.bind_eq_bind]); repeat' (first | (refine PD.bind fun _ => ?_) | (refine PD.map fun _ => ?_) | exact PD.none | exact PD.val | exact PD.valR | exact PD.laid | exact PD.pan rfl | split)); done)
    | (unfold oSlice; ((try simp only [Option.bind_eq_bind]); repeat' (first | (refine PD.bind fun _ => ?_) | (refine PD.map fun _ => ?_) | exact PD.none | exact PD.val | exact PD.valR | exact PD.laid | exact PD.pan rfl | split)); done)
    | (unfold oFieldAddr; ((try simp only [Option.bind_eq_bind]); repeat' (first | (refine PD.bind fun _ => ?_) | (refine PD.map fun _ => ?_) | exact PD.none | exact PD.val | exact PD.valR | exact PD.laid | exact PD.pan rfl | split)); done)
    | (unfold oField; ((try simp only [Option.bind_eq_bind]); repeat' (first | (refine PD.bind fun _ => ?_) | (refine PD.map fun _ => ?_) | exact PD.none | exact PD.val | exact PD.valR | exact PD.laid | exact PD.pan rfl | split)); done)
    | (unfold oIndexAddr; ((try simp only [Option.bind_eq_bind]); repeat' (first | (refine PD.bind fun _ => ?_) | (refine PD.map fun _ => ?_) | exact PD.none | exact PD.val | exact PD.valR | exact PD.laid | exact PD.pan rfl | split)); done)
    | (unfold oIndex; ((try simp only [Option.bind_eq_bind]); repeat' (first | (refine PD.bind fun _ => ?_) | (refine PD.map fun _ => ?_) | exact PD.none | exact PD.val | exact PD.valR | exact PD.laid | exact PD.pan rfl | split)); done)
    | (unfold oLookup; ((try simp only [Option.bind_eq_bind]); repeat' (first | (refine PD.bind fun _ => ?_) | (refine PD.map fun _ => ?_) | exact PD.none | exact PD.val | exact PD.valR | exact PD.laid | exact PD.pan rfl | split)); done)
    | (unfold oMapUpdate; ((try simp only [Option.bind_eq_bind]); repeat' (first | (refine PD.bind fun _ => ?_) | (refine PD.map fun _ => ?_) | exact PD.none | exact PD.val | exact PD.valR | exact PD.laid | exact PD.pan rfl | split)); done)
    | (unfold oMapEntry; ((try simp only [Option.bind_eq_bind]); repeat' (first | (refine PD.bind fun _ => ?_) | (refine PD.map fun _ => ?_) | exact PD.none | exact PD.val | exact PD.valR | exact PD.laid | exact PD.pan rfl | split)); done)
    | (unfold oEntryStore; ((try simp only [Option.bind_eq_bind]); repeat' (first | (refine PD.bind fun _ => ?_) | (refine PD.map fun _ => ?_) | exact PD.none | exact PD.val | exact PD.valR | exact PD.laid | exact PD.pan rfl | split)); done)
    | (unfold oRange; ((try simp only [Option.bind_eq_bind]); repeat' (first | (refine PD.bind fun _ => ?_) | (refine PD.map fun _ => ?_) | exact PD.none | exact PD.val | exact PD.valR | exact PD.laid | exact PD.pan rfl | split)); done)
    | (unfold oNext; ((try simp only [Option.bind_eq_bind]); repeat' (first | (refine PD.bind fun _ => ?_) | (refine PD.map fun _ => ?_) | exact PD.none | exact PD.val | exact PD.valR | exact PD.laid | exact PD.pan rfl | split)); done)
    | (unfold oTypeAssert; ((try simp only [Option.bind_eq_bind]); repeat' (first | (refine PD.bind fun _ => ?_) | (refine PD.map fun _ => ?_) | exact PD.none | exact PD.val | exact PD.valR | exact PD.laid | exact PD.pan rfl | split)); done)
    | (unfold oExtract; ((try simp only [Option.bind_eq_bind]); repeat' (first | (refine PD.bind fun _ => ?_) | (refine PD.map fun _ => ?_) | exact PD.none | exact PD.val | exact PD.valR | exact PD.laid | exact PD.pan rfl | split)); done)
    | (unfold oDefer; ((try simp only [Option.bind_eq_bind]); repeat' (first | (refine PD.bind fun _ => ?_) | (refine PD.map fun _ => ?_) | exact PD.none | exact PD.val | exact PD.valR | exact PD.laid | exact PD.pan rfl | split)); done)
    | (unfold oPanic; ((try simp only [Option.bind_eq_bind]); repeat' (first | (refine PD.bind fun _ => ?_) | (refine PD.map fun _ => ?_) | exact PD.none | exact PD.val | exact PD.valR | exact PD.laid | exact PD.pan rfl | split)); done)
    | (unfold oCall; simp only [Option.bind_eq_bind]; repeat' (first | exact pd_builtin | (refine PD.bind fun _ => ?_) | exact PD.none | exact PD.pan rfl | exact PD.val | split))
end
end Go.Av

/- Regions that draw their order: parts. -/
namespace Go.Av
section
variable {P : Program} {E : Env} {φ ψ : Phi} {h : Heap} {w : World}

/-- A map of blocks, cut. -/
def Phi.cut (φ : Phi) (k : Nat) : Phi := fun B => if B < k then φ B else none
theorem Phi.cut_le (φ : Phi) (k : Nat) : (φ.cut k).le φ := by
  intro B L h; unfold Phi.cut at h; split at h
  · exact h
  · cases h
theorem Phi.cut_mono (φ : Phi) {j k : Nat} (hjk : j ≤ k) : (φ.cut j).le (φ.cut k) := by
  intro B L h; unfold Phi.cut at h ⊢; split at h
  · rw [if_pos (by omega)]; exact h
  · cases h
theorem Phi.le_cut {φ ψ : Phi} (h : φ.le ψ) (k : Nat) : (φ.cut k).le (ψ.cut k) := by
  intro B L e; unfold Phi.cut at e ⊢; split at e
  · rw [if_pos (by assumption)]; exact h B L e
  · cases e
theorem Phi.cut_some {φ : Phi} {k B : Nat} {L : Loc} : φ.cut k B = some L ↔ B < k ∧ φ B = some L := by
  unfold Phi.cut
  split
  · rename_i h; simp [h]
  · rename_i h; simp [h]

mutual
theorem VRel.below {k : Nat} : ∀ {d : Nat} {v : AV} {x : Value}, VRel φ v x → Av.below d k v = true → VRel (φ.cut k) v x
  | 0, _, _, _, h => by simp [Av.below] at h
  | d + 1, v, x, hv, h => by
    have cut : ∀ {B : Nat} {L : Loc}, B < k → φ B = some L → φ.cut k B = some L := fun h1 h2 => Phi.cut_some.2 ⟨h1, h2⟩
    cases v with
    | undef => simpa only [VRel] using hv
    | bool b => simpa only [VRel] using hv
    | int kd n => simpa only [VRel] using hv
    | str s => simpa only [VRel] using hv
    | ptr a => cases a with
      | none => simpa only [VRel] using hv
      | some p =>
        simp only [VRel, Av.below, decide_eq_true_eq] at hv h ⊢
        obtain ⟨L, h1, h2⟩ := hv
        exact ⟨L, cut h h1, h2⟩
    | slice a l c =>
      simp only [VRel] at hv ⊢
      cases a with
      | none =>
        cases c with
        | known c => simpa only [SlRel] using hv
        | room c => simp [SlRel] at hv
      | some p =>
        simp only [Av.below, decide_eq_true_eq] at h
        cases c with
        | known c => simp only [SlRel] at hv ⊢; obtain ⟨L, o, h1, h2⟩ := hv; exact ⟨L, o, cut h h1, h2⟩
        | room c => simp only [SlRel] at hv ⊢; obtain ⟨L, o, c', h1, h2⟩ := hv; exact ⟨L, o, c', cut h h1, h2⟩
    | map r => cases r with
      | none => simpa only [VRel] using hv
      | some r =>
        simp only [VRel, Av.below, decide_eq_true_eq] at hv h ⊢
        obtain ⟨L, h1, h2⟩ := hv
        exact ⟨L, cut h h1, h2⟩
    | func f a c =>
      simp only [Av.below, Bool.and_eq_true] at h
      simp only [VRel] at hv ⊢
      obtain ⟨a', c', h1, h2, h3⟩ := hv
      exact ⟨a', c', h1, VRels.below h2 h.1, VRels.below h3 h.2⟩
    | yield l =>
      simp only [VRel, Av.below, decide_eq_true_eq] at hv h ⊢
      obtain ⟨L, h1, h2⟩ := hv
      exact ⟨L, cut h h1, h2⟩
    | nilFunc => simpa only [VRel] using hv
    | iface t y =>
      simp only [Av.below] at h
      simp only [VRel] at hv ⊢
      obtain ⟨z, h1, h2⟩ := hv
      exact ⟨z, h1, VRel.below h2 h⟩
    | nilIface => simpa only [VRel] using hv
    | agg cs =>
      simp only [Av.below] at h
      simp only [VRel] at hv ⊢
      obtain ⟨z, h1, h2⟩ := hv
      exact ⟨z, h1, VRels.below h2 h⟩
    | tuple cs =>
      simp only [Av.below] at h
      simp only [VRel] at hv ⊢
      obtain ⟨z, h1, h2⟩ := hv
      exact ⟨z, h1, VRels.below h2 h⟩
theorem VRels.below {k d : Nat} : ∀ {vs : List AV} {xs : List Value}, VRels φ vs xs → vs.all (Av.below d k) = true → VRels (φ.cut k) vs xs
  | [], _, hv, _ => by simpa only [VRels] using hv
  | v :: vs, _, hv, h => by
    simp only [VRels] at hv
    obtain ⟨y, ys, rfl, h1, h2⟩ := hv
    simp only [List.all_cons, Bool.and_eq_true] at h
    exact .cons (VRel.below h1 h.1) (VRels.below h2 h.2)
end

/-- A heap of which nothing is known. -/
def deadHeap (n : Nat) : Heap := ⟨T.ofL (List.replicate n .dead) 0 .leaf, n⟩
theorem deadHeap_get (n B : Nat) : (deadHeap n).b.get B = if B < n then some .dead else none := by
  unfold deadHeap
  simp only [T.get_ofL, List.length_replicate, Nat.zero_le, Nat.zero_add, true_and, Nat.sub_zero, T.get_leaf]
  split
  · rename_i h; simp [h]
  · rfl
theorem deadHeap_rel (hd : ∀ B L, φ B = some L → B < h.next ∧ L.b < w.heap.size) (n : Nat) : HRel E (φ.cut n) (deadHeap n) w := by
  refine ⟨fun B L e => ⟨(Phi.cut_some.1 e).1, (hd B L (Phi.cut_some.1 e).2).2⟩, fun B B' L L' e _ _ h1 _ => ?_, fun B L e => ?_, fun B hB => ?_⟩
  · rw [deadHeap_get, if_pos (Phi.cut_some.1 e).1] at h1; exact absurd rfl h1
  · rw [deadHeap_get, if_pos (Phi.cut_some.1 e).1]; trivial
  · rw [deadHeap_get, if_neg (by simpa [deadHeap] using hB)]
theorem deadHeap_mod (n B : Nat) : ¬ Mod (deadHeap n) B := by
  unfold Mod
  rw [deadHeap_get]
  split <;> simp_all

/-- Two worlds: the later one has more, and all that the first has. -/
structure More (w w' : World) : Prop where
  old : ∀ b, b < w.heap.size → w'.heap[b]? = w.heap[b]?
  size : w.heap.size ≤ w'.heap.size
  os : w'.os = w.os
  tape : w'.tape = w.tape
  output : w'.output = w.output
theorem HRel.more {w' : World} (H : HRel E φ h w) (m : More w w') : HRel E φ h w' := by
  refine ⟨fun B L e => ⟨(H.dom B L e).1, Nat.lt_of_lt_of_le (H.dom B L e).2 m.size⟩, H.inj, fun B L e => ?_, H.fresh⟩
  rw [m.old _ (H.dom B L e).2]
  exact H.blk B L e
theorem Ext.more {w0 w' : World} {h0 : Heap} {φ0 : Phi} (X : Ext φ0 h0 w0 φ h w) (m : More w w') : Ext φ0 h0 w0 φ h w' :=
  ⟨X.le, X.new, X.next, Nat.le_trans X.size m.size, X.idle, X.ro, fun b hb hm => by rw [m.old b (Nat.lt_of_lt_of_le hb X.size), X.old b hb hm], m.os.trans X.os, m.tape.trans X.tape, m.output.trans X.output⟩
/-- Out of a heap of which nothing is known, nothing is turned. -/
theorem Ext.dead {n : Nat} {φ' : Phi} {h' : Heap} {w' : World} (X : Ext φ (deadHeap n) w φ' h' w') : More w w' :=
  ⟨fun b hb => X.old b hb fun B _ _ _ => deadHeap_mod n B, X.size, X.os, X.tape, X.output⟩

/-- An operation that looks at memory leaves the world as it is. -/
theorem look_done (hE : E.Ok P) {R : Rec} {cx : Cx} {st : St} (H : HRel E φ st.hp w) {a : Act} {o : Oper} (hk : kindOf E o.op = .look) (r : Sees φ st.tm a o.op.operands) {v : AV} {st' : St} (h : opGo E R cx o.op st = some (.val v st')) :
    ∃ x, (execOp a.eval o).run P w = .ok (.value x) w ∧ VRel φ v x := by
  have fin : ∀ {s : Sem Value}, (∃ x, s.run P w = .ok x w ∧ VRel φ v x) → ∃ x, (do pure (Next.value (← s)) : Sem Next).run P w = .ok (.value x) w ∧ VRel φ v x := by
    rintro s ⟨x, h1, h2⟩
    exact ⟨x, by simp [h1], h2⟩
  unfold execOp
  cases e : o.op <;> rw [e] at hk h <;> simp only [kindOf, reduceCtorEq] at hk <;> simp only [opGo] at h
  case load t x =>
    simp only [oLoad, Option.bind_eq_bind, Option.bind_eq_some_iff] at h
    obtain ⟨p, hp, h⟩ := h
    split at h
    · rename_i b o'
      obtain ⟨hv, rfl⟩ := valR_val h
      have hx := r _ (by rw [e]; simp [Op.operands]) _ hp
      simp only [VRel] at hx
      obtain ⟨L, hL, hx⟩ := hx
      obtain ⟨y, hy, hyv⟩ := loadVar_rel (P := P) hE H hL hv
      exact fin ⟨y, by simp only [Instr.loadAt, hx, Instr.sureAddr, Sem.run_bind, Sem.run_pure, Result.andThen_ok]; exact hy, hyv⟩
    · cases h
  case lookup t m k ok =>
    simp only [oLookup, Option.bind_eq_bind, Option.bind_eq_some_iff] at h
    obtain ⟨ty, hty, u, hu, h⟩ := h
    split at h
    · simp only [Option.bind_eq_some_iff] at h
      obtain ⟨kv, hkv, h⟩ := h
      split at h
      · rename_i hd
        split at h
        · rename_i hkey
          simp only [Option.bind_eq_some_iff] at h
          obtain ⟨es, hes, te, hte, f, hf, h⟩ := h
          split at h
          · cases h
            exact fin (lookup_rel (P := P) hE H hty hd (r _ (by rw [e]; simp [Op.operands]) _ hu) (r _ (by rw [e]; simp [Op.operands]) _ hkv) hkey hes hte hf ok (.inl ⟨_, rfl, rfl⟩))
          · simp only [Option.bind_eq_some_iff, Option.some.injEq] at h
            obtain ⟨z, hz, h⟩ := h
            cases h
            exact fin (lookup_rel (P := P) hE H hty hd (r _ (by rw [e]; simp [Op.operands]) _ hu) (r _ (by rw [e]; simp [Op.operands]) _ hkv) hkey hes hte hf ok (.inr ⟨rfl, _, hz, rfl⟩))
        · cases h
      · cases h
    · cases h
  case call c =>
    split at hk
    · rename_i hc
      simp only [oCall, hc, Option.bind_eq_bind, Option.bind_eq_some_iff] at h
      obtain ⟨vs, hvs, h⟩ := h
      rw [builtin_len] at h
      split at h
      · rename_i t x hts
        simp only [Option.map_eq_some_iff] at h
        obtain ⟨n, hn, h⟩ := h
        cases h
        obtain ⟨xv, hxs, hx⟩ := (args_rel r (by intro y hy; rw [e]; simp [Op.operands, Call.operands, hy]) hvs).single
        simp only [resolve, hc, hxs]
        have := len_rel (P := P) hE H hx hn c.argTypes (by rw [toList1 hts]; rfl) o.type
        exact fin ⟨goInt n, this, by simp only [VRel, goInt]; rfl⟩
      · cases h
    · cases hk
  case convert src dst x =>
    simp only [oConvert, Option.bind_eq_bind, Option.bind_eq_some_iff] at h
    obtain ⟨s, hs, d, hd, u, hu, h⟩ := h
    have hx := r _ (by rw [e]; simp [Op.operands]) _ hu
    have hus := run_under hE hs (P := P)
    have hud := run_under hE hd (P := P)
    rw [hs, hd] at hk
    simp only at hk
    split at h
    · rename_i el base n cap h1 h2
      rw [h1] at hus
      rw [h2] at hud
      simp only [Option.bind_eq_some_iff] at h
      obtain ⟨te, hte, h⟩ := h
      split at h
      · rename_i h3
        have hue := run_under hE hte (P := P)
        rw [h3] at hue
        simp only [Option.bind_eq_some_iff] at h
        obtain ⟨cs, hcs, h⟩ := h
        obtain ⟨hz, rfl⟩ := valR_val h
        simp only [Option.map_eq_some_iff] at hz
        obtain ⟨bs, hbs, rfl⟩ := hz
        obtain ⟨z, hz, hzr⟩ := toString_rel (P := P) H hx hcs hbs
        refine fin ⟨z, ?_, hzr⟩
        have : ∃ b c, a.eval x = .slice b n c := by
          simp only [VRel] at hx; unfold SlRel at hx
          split at hx
          · exact ⟨_, _, hx.1⟩
          · cases hx
          · obtain ⟨_, _, _, hx, _⟩ := hx; exact ⟨_, _, hx⟩
          · obtain ⟨_, _, _, _, hx, _⟩ := hx; exact ⟨_, _, hx⟩
        obtain ⟨b, c, hb⟩ := this
        rw [hb] at hz ⊢
        simp [convert, hus, hud, hue, hz]
      · cases h
    · rename_i h1 h2; rw [h1, h2] at hk; cases hk
    · obtain ⟨hz, rfl⟩ := valR_val h
      exact fin (convV_rel hE hs hd hx hz)
end
end Go.Av

/- Regions that draw their order: what the evaluator did, in the text's order; who surely comes ahead of whom. -/
namespace Go.Av
section
variable {E : Env} {R : Rec} {cx : Cx} {all : List Oper}

/-- The state ahead of an operation. -/
def stAt (tr : List Tr) (s' : St) (k : Nat) : St :=
  match tr[k]? with
  | some x => x.s
  | none => s'
/-- One operation has been done. -/
def DidOne (E : Env) (R : Rec) (cx : Cx) (all : List Oper) (tr : List Tr) (s' : St) (k : Nat) (x : Tr) : Prop :=
  oneOp E R cx all x.o x.s = some (.val x.v (stAt tr s' (k + 1))) ∧ below 9 (stAt tr s' (k + 1)).hp.next x.v = true ∧ x.s.hp.next ≤ (stAt tr s' (k + 1)).hp.next
theorem drawRun_spec : ∀ (os : List Oper) (s : St) (tr : List Tr) (ex : Ex) (s' : St), drawRun E R cx all os s = some (tr, ex, s') →
    stAt tr s' 0 = s ∧ tr.length ≤ os.length ∧ (∀ (k : Nat) (x : Tr), tr[k]? = some x → os[k]? = some x.o) ∧
    ((ex = .normal ∧ tr.length = os.length ∧ ∀ k x, tr[k]? = some x → DidOne E R cx all tr s' k x) ∨
     (∃ c p y, ex = .panic c ∧ tr.length = p + 1 ∧ tr[p]? = some y ∧ kindOf E y.o.op = .act ∧ (∃ s2, oneOp E R cx all y.o y.s = some (.pan c s2) ∧ s' = { s2 with tm := s2.tm.dels (dsts all) }) ∧ ∀ k x, k < p → tr[k]? = some x → DidOne E R cx all tr s' k x)) := by
  intro os
  induction os with
  | nil =>
    intro s tr ex s' h
    simp only [drawRun, Option.some.injEq, Prod.mk.injEq] at h
    obtain ⟨rfl, rfl, rfl⟩ := h
    exact ⟨rfl, Nat.le_refl _, fun k x hx => by simp at hx, .inl ⟨rfl, rfl, fun k x hx => by simp at hx⟩⟩
  | cons o os ih =>
    intro s tr ex s' h
    simp only [drawRun, Option.bind_eq_bind, Option.bind_eq_some_iff] at h
    obtain ⟨q, hq, h⟩ := h
    cases q with
    | val v s1 =>
      simp only at h
      split at h
      · rename_i hbelow
        simp only [Option.bind_eq_some_iff] at h
        obtain ⟨⟨l, ex1, s2⟩, hl, h⟩ := h
        simp only [Option.some.injEq, Prod.mk.injEq] at h
        obtain ⟨rfl, rfl, rfl⟩ := h
        obtain ⟨h0, h1, h2, h3⟩ := ih s1 l ex1 s2 hl
        have hst : ∀ k, stAt (⟨o, s, v⟩ :: l) s2 (k + 1) = stAt l s2 k := fun k => by simp [stAt]
        have hfirst : DidOne E R cx all (⟨o, s, v⟩ :: l) s2 0 ⟨o, s, v⟩ := by
          unfold DidOne
          rw [hst, h0]
          exact ⟨hq, hbelow⟩
        have hlater : ∀ k x, DidOne E R cx all l s2 k x → DidOne E R cx all (⟨o, s, v⟩ :: l) s2 (k + 1) x := fun k x d => by
          unfold DidOne at d ⊢; rw [hst]; exact d
        refine ⟨rfl, by simp [h1], fun k x hx => ?_, ?_⟩
        · cases k with
          | zero => simp at hx; subst hx; rfl
          | succ k => simp at hx ⊢; exact h2 k x hx
        · rcases h3 with ⟨e, hlen, hall⟩ | ⟨c, p, y, e, hlen, hy, hk, ho, hall⟩
          · refine .inl ⟨e, by simp [hlen], fun k x hx => ?_⟩
            cases k with
            | zero => simp at hx; subst hx; exact hfirst
            | succ k => simp at hx; exact hlater k x (hall k x hx)
          · refine .inr ⟨c, p + 1, y, e, by simp [hlen], by simpa using hy, hk, ho, fun k x hkp hx => ?_⟩
            cases k with
            | zero => simp at hx; subst hx; exact hfirst
            | succ k => simp at hx; exact hlater k x (hall k x (by omega) hx)
      · cases h
    | pan c s1 =>
      simp only at h
      split at h
      · rename_i hk
        simp only [Option.some.injEq, Prod.mk.injEq] at h
        obtain ⟨rfl, rfl, rfl⟩ := h
        refine ⟨rfl, by simp, fun k x hx => ?_, .inr ⟨c, 0, _, rfl, rfl, rfl, hk, ⟨_, hq, rfl⟩, fun k x hk => by omega⟩⟩
        cases k with
        | zero => simp at hx; subst hx; rfl
        | succ k => simp at hx
      · cases h

/-! ### Who surely comes ahead -/
theorem aheadOf_bit {bs : List Nat} {o : Oper} {i : Nat} : (aheadOf bs o).testBit i = true ↔ ∃ e ∈ o.after.toList, Region.binds .any e = true ∧ (i = e.on ∨ (bs.getD e.on 0).testBit i = true) := by
  unfold aheadOf
  have : ∀ (l : List Edge) (s : Nat), (l.foldl (fun s e => if Region.binds .any e then s ||| 2 ^ e.on ||| bs.getD e.on 0 else s) s).testBit i = true ↔
      s.testBit i = true ∨ ∃ e ∈ l, Region.binds .any e = true ∧ (i = e.on ∨ (bs.getD e.on 0).testBit i = true) := by
    intro l
    induction l with
    | nil => intro s; simp
    | cons e l ih =>
      intro s
      rw [List.foldl_cons, ih]
      by_cases hb : Region.binds .any e = true
      · simp only [hb, if_true, Nat.testBit_or, Bool.or_eq_true, List.mem_cons]
        rw [Nat.testBit_two_pow]
        constructor
        · rintro (((h | h) | h) | ⟨e', he', h⟩)
          · exact .inl h
          · exact .inr ⟨e, .inl rfl, hb, .inl (by simpa [eq_comm] using h)⟩
          · exact .inr ⟨e, .inl rfl, hb, .inr h⟩
          · exact .inr ⟨e', .inr he', h⟩
        · rintro (h | ⟨e', rfl | he', hb', h⟩)
          · exact .inl (.inl (.inl h))
          · rcases h with h | h
            · exact .inl (.inl (.inr (by simpa using h.symm)))
            · exact .inl (.inr h)
          · exact .inr ⟨e', he', hb', h⟩
      · simp only [hb, List.mem_cons]
        constructor
        · rintro (h | ⟨e', he', h⟩)
          · exact .inl h
          · exact .inr ⟨e', .inr he', h⟩
        · rintro (h | ⟨e', rfl | he', hb', h⟩)
          · exact .inl h
          · exact absurd hb' hb
          · exact .inr ⟨e', he', hb', h⟩
  have h0 := this o.after.toList 0
  simp only [Nat.zero_testBit, Bool.false_eq_true, false_or] at h0
  exact h0
theorem aheads_prefix : ∀ (os : List Oper) (bs : List Nat) (j : Nat), j < bs.length → (aheads os bs).getD j 0 = bs.getD j 0
  | [], _, _, _ => rfl
  | o :: os, bs, j, h => by
    rw [aheads, aheads_prefix os _ j (by simp; omega)]
    simp [List.getD, List.getElem?_append_left h]
theorem aheads_get : ∀ (os : List Oper) (bs : List Nat) (j : Nat) (o : Oper), os[j]? = some o → (∀ e ∈ o.after.toList, Region.binds .any e = true → e.on < bs.length + j) → ∀ i,
    ((aheads os bs).getD (bs.length + j) 0).testBit i = true ↔ ∃ e ∈ o.after.toList, Region.binds .any e = true ∧ (i = e.on ∨ ((aheads os bs).getD e.on 0).testBit i = true)
  | [], _, _, _, h, _, _ => by simp at h
  | o' :: os, bs, j, o, h, hb, i => by
    cases j with
    | zero =>
      simp at h
      subst h
      rw [aheads, aheads_prefix os _ _ (by simp)]
      have e1 : (bs ++ [aheadOf bs o']).getD (bs.length + 0) 0 = aheadOf bs o' := by simp [List.getD]
      rw [e1, aheadOf_bit]
      constructor
      · rintro ⟨e, he, hbn, h⟩
        refine ⟨e, he, hbn, h.imp id fun h => ?_⟩
        have := hb e he hbn
        rw [aheads_prefix os _ _ (by simp; omega)]
        simp only [List.getD] at h ⊢
        rw [List.getElem?_append_left (by omega)]; exact h
      · rintro ⟨e, he, hbn, h⟩
        refine ⟨e, he, hbn, h.imp id fun h => ?_⟩
        have := hb e he hbn
        rw [aheads_prefix os _ _ (by simp; omega)] at h
        simp only [List.getD] at h ⊢
        rw [List.getElem?_append_left (by omega)] at h; exact h
    | succ j =>
      simp at h
      have := aheads_get os (bs ++ [aheadOf bs o']) j o h (fun e he hbn => by have := hb e he hbn; simp; omega) i
      simp only [List.length_append, List.length_singleton] at this
      rw [aheads, show bs.length + (j + 1) = bs.length + 1 + j from by omega]
      exact this
end
end Go.Av

/- Regions that draw their order: what is asked of their operations. -/
namespace Go.Av
section
variable {E : Env} {all : List Oper}

theorem mem_zip {α : Type} {l : List α} {j : Nat} {y : α} (h : l[j]? = some y) : (y, j) ∈ l.zipIdx := by
  rw [List.mem_iff_getElem?]
  exact ⟨j, by simp [List.getElem?_zipIdx, h]⟩
/-- Edges lead back. -/
theorem fine_back (hf : fine E all = true) {j : Nat} {y : Oper} (hy : all[j]? = some y) : ∀ e ∈ y.after.toList, Region.binds .any e = true → e.on < j := by
  unfold fine at hf
  have h1 := List.all_eq_true.1 hf (y, j) (mem_zip hy)
  simp only [Bool.and_eq_true] at h1
  intro e he hb
  have h2 := List.all_eq_true.1 h1.1 e he
  simpa [hb] using h2
/-- Two operations: the one surely comes ahead, or they have no slot in common that one of them writes, and do not both act. -/
theorem fine_two (hf : fine E all = true) {i j : Nat} {x y : Oper} (hx : all[i]? = some x) (hy : all[j]? = some y) (hij : i < j) :
    ahead (aheads all []) i j = true ∨ ((∀ d, x.dst = some d → d ∉ namesOf all y) ∧ (∀ d, y.dst = some d → d ∉ namesOf all x) ∧ ¬ (kindOf E x.op = .act ∧ kindOf E y.op = .act)) := by
  unfold fine at hf
  have h1 := List.all_eq_true.1 hf (y, j) (mem_zip hy)
  simp only [Bool.and_eq_true] at h1
  have h2 := List.all_eq_true.1 h1.2 (x, i) (mem_zip hx)
  simp only [hij, decide_true, Bool.not_true, Bool.false_or, Bool.or_eq_true, Bool.and_eq_true, Bool.not_eq_true', decide_eq_false_iff_not, Bool.and_eq_false_iff] at h2
  rcases h2 with h2 | ⟨⟨h2, h3⟩, h4⟩
  · exact .inl h2
  · refine .inr ⟨fun d hd => ?_, fun d hd => ?_, fun ⟨ha, hb⟩ => ?_⟩
    · rw [hd] at h2; simpa using h2
    · rw [hd] at h3; simpa using h3
    · rcases h4 with h4 | h4
      · exact h4 ha
      · exact h4 hb
/-- What is ahead of an operation comes by its edges. -/
theorem ahead_step (hf : fine E all = true) {j : Nat} {y : Oper} (hy : all[j]? = some y) (i : Nat) :
    ahead (aheads all []) i j = true ↔ ∃ e ∈ y.after.toList, Region.binds .any e = true ∧ (i = e.on ∨ ahead (aheads all []) i e.on = true) := by
  have h := aheads_get all [] j y hy (fun e he hb => by have := fine_back hf hy e he hb; simpa using this) i
  unfold ahead
  simpa using h
/-- A set of operations that, with each, has the operations that its edges name. -/
def Down (all : List Oper) (D : Nat → Prop) : Prop := ∀ j y, D j → all[j]? = some y → ∀ e ∈ y.after.toList, Region.binds .any e = true → D e.on
theorem Down.ahead (hf : fine E all = true) {D : Nat → Prop} (hD : Down all D) : ∀ (j : Nat) (y : Oper), all[j]? = some y → (∀ e ∈ y.after.toList, Region.binds .any e = true → D e.on) → ∀ i, Av.ahead (aheads all []) i j = true → D i := by
  intro j
  induction j using Nat.strongRecOn with
  | _ j ih =>
    intro y hy hed i hi
    obtain ⟨e, he, hb, h⟩ := (ahead_step hf hy i).1 hi
    rcases h with rfl | h
    · exact hed e he hb
    · have hlt := fine_back hf hy e he hb
      cases hz : all[e.on]? with
      | none =>
        exfalso
        have : all.length ≤ e.on := List.getElem?_eq_none_iff.1 hz
        have := (List.getElem?_eq_some_iff.1 hy).1
        omega
      | some z => exact ih e.on hlt z hz (fun e' he' hb' => hD e.on z (hed e he hb) hz e' he' hb') i h
/-- Who is ahead of one that is done, is done. -/
theorem Down.ahead' (hf : fine E all = true) {D : Nat → Prop} (hD : Down all D) {i j : Nat} (hj : D j) (hlt : j < all.length) (hi : Av.ahead (aheads all []) i j = true) : D i := by
  have hy : all[j]? = some all[j] := List.getElem?_eq_getElem hlt
  exact hD.ahead hf j all[j] hy (fun e he hb => hD j _ hj hy e he hb) i hi
end
end Go.Av

/- Regions that draw their order: a view of the evaluator's heap, lifted over a block that has been laid early, or not yet. -/
namespace Go.Av
section
variable {P : Program} {E : Env} {φ φ0 ψ : Phi} {h h0 : Heap} {w w0 : World}

theorem newBlk_get (h : Heap) (x : Blk) (B : Nat) : (newBlk h x).b.get B = if B = h.next then some x else h.b.get B := by
  simp [newBlk, T.get_set]
theorem Phi.cut_succ {φ : Phi} {n B : Nat} {L : Loc} (e : φ.cut (n + 1) B = some L) : (B < n ∧ φ.cut n B = some L) ∨ (B = n ∧ φ n = some L) := by
  obtain ⟨h1, h2⟩ := Phi.cut_some.1 e
  by_cases hB : B < n
  · exact .inl ⟨hB, Phi.cut_some.2 ⟨hB, h2⟩⟩
  · obtain rfl : B = n := by omega
    exact .inr ⟨rfl, h2⟩
/-- A block more in the evaluator's heap: mapped, and as it lies in the world; or not mapped. -/
theorem HRel.lift {n : Nat} (hn : h.next = n) (H : HRel E (φ.cut n) h w) {x : Blk}
    (hx : ∀ L, φ n = some L → L.b < w.heap.size ∧ (∀ B L', φ B = some L' → L'.b = L.b → B = n) ∧ BRel E (φ.cut (n + 1)) L (some x) w.heap[L.b]?) : HRel E (φ.cut (n + 1)) (newBlk h x) w := by
  subst hn
  have hle := Phi.cut_mono φ (Nat.le_succ h.next)
  refine ⟨fun B L e => ?_, fun B B' L L' e e' he h1 h2 => ?_, fun B L e => ?_, fun B hB => ?_⟩
  · rcases Phi.cut_succ e with ⟨hB, e1⟩ | ⟨rfl, e1⟩
    · exact ⟨by simp [newBlk]; omega, (H.dom B L e1).2⟩
    · exact ⟨by simp [newBlk], (hx L e1).1⟩
  · rcases Phi.cut_succ e with ⟨hB, e1⟩ | ⟨rfl, e1⟩
    · rcases Phi.cut_succ e' with ⟨hB', e1'⟩ | ⟨rfl, e1'⟩
      · rw [newBlk_get, if_neg (by omega)] at h1 h2
        exact H.inj B B' L L' e1 e1' he h1 h2
      · exact (hx L' e1').2.1 B L (Phi.cut_some.1 e1).2 he
    · rcases Phi.cut_succ e' with ⟨hB', e1'⟩ | ⟨rfl, e1'⟩
      · exact ((hx L e1).2.1 B' L' (Phi.cut_some.1 e1').2 he.symm).symm
      · rfl
  · rcases Phi.cut_succ e with ⟨hB, e1⟩ | ⟨rfl, e1⟩
    · rw [newBlk_get, if_neg (by omega)]
      exact (H.blk B L e1).mono hle
    · rw [newBlk_get, if_pos rfl]
      exact (hx L e1).2.2
  · rw [newBlk_get]
    simp only [newBlk] at hB
    rw [if_neg (by omega)]
    exact H.fresh B (by omega)
theorem Ext.lift {n : Nat} (hn : h.next = n) (X : Ext φ0 h0 w0 (φ.cut n) h w) (hd : ∀ B L, φ0 B = some L → B < h0.next) {x : Blk} (hx : ∀ L, φ n = some L → w0.heap.size ≤ L.b) : Ext φ0 h0 w0 (φ.cut (n + 1)) (newBlk h x) w := by
  subst hn
  have hle := Phi.cut_mono φ (Nat.le_succ h.next)
  refine ⟨Phi.le_trans X.le hle, fun B L e => ?_, Nat.le_trans X.next (by simp [newBlk]), X.size, fun B hB hn => ?_, fun B hB hm => ?_, X.old, X.os, X.tape, X.output⟩
  · rcases Phi.cut_succ e with ⟨hB, e1⟩ | ⟨rfl, e1⟩
    · rcases X.new B L e1 with h1 | ⟨h1, h2, h3, h4⟩
      · exact .inl h1
      · exact .inr ⟨h1, h2, by simp [newBlk]; omega, h4⟩
    · refine .inr ⟨?_, X.next, by simp [newBlk], .inl (hx L e1)⟩
      cases hp : φ0 h.next with
      | none => rfl
      | some L0 => have := hd _ _ hp; have := X.next; omega
  · have := X.next
    rw [newBlk_get, if_neg (by omega)]; exact X.idle B hB hn
  · have := X.next
    rw [newBlk_get, if_neg (by omega)]; exact X.ro B hB hm
end
end Go.Av

/- Regions that draw their order: one operation of the trace. -/
namespace Go.Av
section
variable {E : Env} {R : Rec} {cx : Cx} {all : List Oper}

theorem put_facts {dst : Option Tmp} {v : AV} {s s' : St} (h : Av.put cx dst v s = some s') :
    s'.hp = s.hp ∧ s'.df = s.df ∧ s'.up = s.up ∧ (∀ t, dst ≠ some t → s'.tm.get t = s.tm.get t) ∧ (∀ d, dst = some d → d < cx.nt ∧ s'.tm.get d = some v) := by
  cases dst with
  | none => simp only [Av.put, Option.some.injEq] at h; subst h; exact ⟨rfl, rfl, rfl, fun _ _ => rfl, fun d e => by cases e⟩
  | some d =>
    simp only [Av.put] at h
    split at h
    · rename_i hd
      cases h
      refine ⟨rfl, rfl, rfl, fun t ht => T.get_set_ne _ _ (fun e => ht (by rw [e])), fun d' e => ?_⟩
      cases e
      exact ⟨hd, T.get_set_same _ _ _⟩
    · cases h
/-- One operation: passed over, or done. -/
theorem oneOp_facts {o : Oper} {s s' : St} {v : AV} (h : oneOp E R cx all o s = some (.val v s')) :
    (∀ t, o.dst ≠ some t → s'.tm.get t = s.tm.get t) ∧ (∀ d, o.dst = some d → d < cx.nt ∧ s'.tm.get d = some v) ∧
    ((wantedV all o s.tm = some false ∧ v = .undef ∧ s'.hp = s.hp ∧ s'.df = s.df ∧ s'.up = s.up) ∨
     (wantedV all o s.tm = some true ∧ ∃ s1, opGo E R cx o.op s = some (.val v s1) ∧ s'.hp = s1.hp ∧ s'.df = s1.df ∧ s'.up = s1.up)) := by
  simp only [oneOp, Option.bind_eq_bind, Option.bind_eq_some_iff] at h
  obtain ⟨c, hc, h⟩ := h
  cases c with
  | true =>
    simp only [if_true, Option.bind_eq_some_iff] at h
    obtain ⟨q, hq, h⟩ := h
    cases q with
    | val u s1 =>
      simp only [Option.map_eq_some_iff] at h
      obtain ⟨s2, hs2, h⟩ := h
      cases h
      obtain ⟨p1, p2, p3, p4, p5⟩ := put_facts hs2
      have hk := kt_go (E := E) (R := R) (cx := cx) _ _ hq
      exact ⟨fun t ht => by rw [p4 t ht, hk], p5, .inr ⟨hc, s1, hq, p1, p2, p3⟩⟩
    | pan c s1 => cases h
  | false =>
    simp only [Bool.false_eq_true, if_false, Option.map_eq_some_iff] at h
    obtain ⟨s2, hs2, h⟩ := h
    cases h
    obtain ⟨p1, p2, p3, p4, p5⟩ := put_facts hs2
    exact ⟨p4, p5, .inl ⟨hc, rfl, p1, p2, p3⟩⟩
/-- Of an operation that does not act: what it leaves, beside what was. -/
theorem still_facts {o : Oper} {s s' : St} {v : AV} (h : oneOp E R cx all o s = some (.val v s')) (hk : kindOf E o.op ≠ .act) :
    s'.df = s.df ∧ s'.up = s.up ∧ (s'.hp = s.hp ∨ (kindOf E o.op = .lay ∧ wantedV all o s.tm = some true ∧ ∃ x, s'.hp = newBlk s.hp x)) := by
  obtain ⟨_, _, h⟩ := oneOp_facts h
  rcases h with ⟨_, _, h1, h2, h3⟩ | ⟨hw, s1, hq, h1, h2, h3⟩
  · exact ⟨h2, h3, .inl h1⟩
  · cases hkd : kindOf E o.op with
    | reck => obtain ⟨rfl, _⟩ := reck_go hkd hq; exact ⟨h2, h3, .inl h1⟩
    | look => obtain ⟨rfl, _⟩ := look_go hkd hq; exact ⟨h2, h3, .inl h1⟩
    | lay => obtain ⟨x, rfl, _⟩ := lay_go hkd hq; exact ⟨h2, h3, .inr ⟨rfl, hw, x, h1⟩⟩
    | act => exact absurd hkd hk
end
end Go.Av

/- Regions that draw their order: the invariant. -/
namespace Go.Av
section
variable {P : Program} {E : Env} {R : Rec} {cx : Cx}

def ActAt (E : Env) (ops : Array Oper) (k : Nat) : Prop := ∃ o, ops[k]? = some o ∧ kindOf E o.op = .act
/-- All acts ahead of p are done, none from p on. -/
def CutAt (E : Env) (ops : Array Oper) (D : Nat → Prop) (p : Nat) : Prop := (∀ k, k < p → ActAt E ops k → D k) ∧ (∀ k, p ≤ k → ActAt E ops k → ¬ D k)
/-- All writers of a slot ahead of p are done, none from p on. -/
def SlotAt (ops : Array Oper) (D : Nat → Prop) (t p : Nat) : Prop := ∀ k o, ops[k]? = some o → o.dst = some t → (D k ↔ k < p)
/-- The trace: m operations have ended with a value. -/
structure TraceOk (E : Env) (R : Rec) (cx : Cx) (ops : Array Oper) (tr : List Tr) (s' : St) (m : Nat) : Prop where
  fine : fine E ops.toList = true
  did : ∀ k, k < m → ∃ o v, ops[k]? = some o ∧ oneOp E R cx ops.toList o (stAt tr s' k) = some (.val v (stAt tr s' (k + 1))) ∧ below 9 (stAt tr s' (k + 1)).hp.next v = true ∧ (stAt tr s' k).hp.next ≤ (stAt tr s' (k + 1)).hp.next
theorem TraceOk.le {ops : Array Oper} {tr : List Tr} {s' : St} {m : Nat} (T : TraceOk E R cx ops tr s' m) : ∀ {j k : Nat}, j ≤ k → k ≤ m → (stAt tr s' j).hp.next ≤ (stAt tr s' k).hp.next := by
  intro j k hjk
  induction k with
  | zero => intro _; obtain rfl : j = 0 := by omega
            exact Nat.le_refl _
  | succ k ih =>
    intro hk
    by_cases h : j = k + 1
    · subst h; exact Nat.le_refl _
    · obtain ⟨o, v, _, _, _, h4⟩ := T.did k (by omega)
      exact Nat.le_trans (ih (by omega) (by omega)) h4
/-- The set of what has been done, and the machine's state beside the trace. -/
structure Inv (P : Program) (E : Env) (cx : Cx) (ops : Array Oper) (tr : List Tr) (s' : St) (m : Nat) (kind : CallKind) (cs₀ : List Frame) (φ0 : Phi) (w0 : World) (D : Nat → Prop) (φ : Phi) (a : Act) (cs : List Frame) (w : World) : Prop where
  lt : ∀ k, D k → k < m
  down : Down ops.toList D
  le : φ0.le φ
  dom : ∀ B L, φ B = some L → B < (stAt tr s' m).hp.next ∧ L.b < w.heap.size
  size : a.tmps.size = cx.nt
  slot : ∀ t p, p ≤ m → SlotAt ops D t p → ∀ v, (stAt tr s' p).tm.get t = some v → t < cx.nt ∧ VRel (φ.cut (stAt tr s' p).hp.next) v (a.tmps.getD t Go.undef)
  view : ∀ p, p ≤ m → CutAt E ops D p → HRel E (φ.cut (stAt tr s' p).hp.next) (stAt tr s' p).hp w ∧ Ext φ0 (stAt tr s' 0).hp w0 (φ.cut (stAt tr s' p).hp.next) (stAt tr s' p).hp w ∧
    DRel (φ.cut (stAt tr s' p).hp.next) (stAt tr s' p).df a.defers ∧ URel (φ.cut (stAt tr s' p).hp.next) kind cs₀ cs (stAt tr s' p).up
  more : w0.heap.size ≤ w.heap.size
  cut : ∃ p, p ≤ m ∧ CutAt E ops D p
  /-- a block that has been laid -/
  laid : ∀ k x L, D k → ¬ ActAt E ops k → (stAt tr s' (k + 1)).hp = newBlk (stAt tr s' k).hp x → φ (stAt tr s' k).hp.next = some L → w0.heap.size ≤ L.b ∧ ((∀ i, ActAt E ops i → D i → i < k) →
    (∀ B L', φ B = some L' → L'.b = L.b → B = (stAt tr s' k).hp.next) ∧ BRel E (φ.cut (stAt tr s' (k + 1)).hp.next) L (some x) w.heap[L.b]?)
  mapped : ∀ B L, φ B = some L → B < (stAt tr s' 0).hp.next ∨ ∃ k, D k ∧ (stAt tr s' k).hp.next ≤ B ∧ B < (stAt tr s' (k + 1)).hp.next
  late : ∀ k x, k < m → ¬ D k → ¬ ActAt E ops k → (stAt tr s' (k + 1)).hp = newBlk (stAt tr s' k).hp x → ∀ p, k < p → p ≤ m → CutAt E ops D p → (stAt tr s' p).hp.b.get (stAt tr s' k).hp.next = some x

variable {ops : Array Oper} {tr : List Tr} {s' : St} {m : Nat} {φ φ0 : Phi} {w w0 : World}
/-- The view, one operation further: one that does not act. -/
theorem view_up (T : TraceOk E R cx ops tr s' m) {p : Nat} (hp : p < m) (hna : ¬ ActAt E ops p) {h0 : Heap} (hd : ∀ B L, φ0 B = some L → B < h0.next) (H : HRel E (φ.cut (stAt tr s' p).hp.next) (stAt tr s' p).hp w)
    (X : Ext φ0 h0 w0 (φ.cut (stAt tr s' p).hp.next) (stAt tr s' p).hp w)
    (hL : ∀ L x, φ (stAt tr s' p).hp.next = some L → (stAt tr s' (p + 1)).hp = newBlk (stAt tr s' p).hp x → w0.heap.size ≤ L.b ∧ L.b < w.heap.size ∧ (∀ B L', φ B = some L' → L'.b = L.b → B = (stAt tr s' p).hp.next) ∧
      BRel E (φ.cut (stAt tr s' (p + 1)).hp.next) L (some x) w.heap[L.b]?) :
    HRel E (φ.cut (stAt tr s' (p + 1)).hp.next) (stAt tr s' (p + 1)).hp w ∧ Ext φ0 h0 w0 (φ.cut (stAt tr s' (p + 1)).hp.next) (stAt tr s' (p + 1)).hp w ∧
      (stAt tr s' (p + 1)).df = (stAt tr s' p).df ∧ (stAt tr s' (p + 1)).up = (stAt tr s' p).up := by
  obtain ⟨o, v, ho, h1, _, _⟩ := T.did p hp
  obtain ⟨e1, e2, e3⟩ := still_facts h1 (fun hk => hna ⟨o, ho, hk⟩)
  rcases e3 with e3 | ⟨_, _, x, e3⟩
  · rw [e3]; exact ⟨H, X, e1, e2⟩
  · have en : (newBlk (stAt tr s' p).hp x).next = (stAt tr s' p).hp.next + 1 := rfl
    have hx := fun L e => hL L x e e3
    rw [e3, en] at hx ⊢
    exact ⟨HRel.lift rfl H fun L e => (hx L e).2, Ext.lift rfl X hd fun L e => (hx L e).1, e1, e2⟩

theorem Phi.cut_dom {φ : Phi} {n k : Nat} (hd : ∀ B L, φ B = some L → B < n) (h : n ≤ k) : φ.cut k = φ := by
  funext B
  unfold Phi.cut
  split
  · rfl
  · cases e : φ B with
    | none => rfl
    | some L => have := hd B L e; omega
/-- Nothing is done yet. -/
theorem inv_start (T : TraceOk E R cx ops tr s' m) {kind : CallKind} {cs₀ cs : List Frame} {a : Act} (hr : SRel E φ cx kind cs₀ (stAt tr s' 0) a cs w) : Inv P E cx ops tr s' m kind cs₀ φ w (fun _ => False) φ a cs w := by
  have hd : ∀ B L, φ B = some L → B < (stAt tr s' 0).hp.next := fun B L e => (hr.hp.dom B L e).1
  have hcut : ∀ p, p ≤ m → φ.cut (stAt tr s' p).hp.next = φ := fun p hp => Phi.cut_dom hd (T.le (Nat.zero_le p) hp)
  have up : ∀ p, p ≤ m → CutAt E ops (fun _ => False) p → HRel E φ (stAt tr s' p).hp w ∧ Ext φ (stAt tr s' 0).hp w φ (stAt tr s' p).hp w ∧ (stAt tr s' p).df = (stAt tr s' 0).df ∧ (stAt tr s' p).up = (stAt tr s' 0).up := by
    intro p
    induction p with
    | zero => intro _ _; exact ⟨hr.hp, .refl .., rfl, rfl⟩
    | succ p ih =>
      intro hp hc
      have hna : ¬ ActAt E ops p := fun h => hc.1 p (by omega) h
      obtain ⟨h1, h2, h3, h4⟩ := ih (by omega) ⟨fun k hk ha => hc.1 k (by omega) ha, fun _ _ _ => id⟩
      have := view_up (φ := φ) (φ0 := φ) (w := w) (w0 := w) T (by omega) hna hd (by rw [hcut p (by omega)]; exact h1) (by rw [hcut p (by omega)]; exact h2) (fun L x e => by
        have := hd _ _ e
        have := T.le (Nat.zero_le p) (by omega)
        omega)
      rw [hcut (p + 1) hp] at this
      exact ⟨this.1, this.2.1, this.2.2.1.trans h3, this.2.2.2.trans h4⟩
  refine ⟨fun _ h => h.elim, fun _ _ h => h.elim, Phi.le_refl φ, fun B L e => ⟨Nat.lt_of_lt_of_le (hd B L e) (T.le (Nat.zero_le m) (Nat.le_refl m)), (hr.hp.dom B L e).2⟩, hr.tm.size, ?_, ?_, Nat.le_refl _,
    ⟨0, Nat.zero_le _, fun k hk => by omega, fun _ _ _ => id⟩, fun _ _ _ h => h.elim, fun B L e => .inl (hd B L e), ?_⟩
  · intro t p hp hs v hv
    have key : ∀ q, q ≤ p → (stAt tr s' q).tm.get t = (stAt tr s' 0).tm.get t := by
      intro q
      induction q with
      | zero => intro _; rfl
      | succ q ih =>
        intro hq
        obtain ⟨o, u, ho, h1, _, _⟩ := T.did q (by omega)
        obtain ⟨h2, _⟩ := oneOp_facts h1
        rw [h2 t (fun e => ((hs q o ho e).2 (by omega)).elim), ih (by omega)]
    rw [key p (Nat.le_refl _)] at hv
    rw [hcut p hp]
    exact hr.tm.get t v hv
  · intro p hp hc
    obtain ⟨h1, h2, h3, h4⟩ := up p hp hc
    rw [hcut p hp, h3, h4]
    exact ⟨h1, h2, hr.df, hr.up⟩
  · intro k x hk _ hna hx p hkp hp hc
    have key : ∀ q, k + 1 ≤ q → q ≤ p → (stAt tr s' q).hp.b.get (stAt tr s' k).hp.next = some x := by
      intro q
      induction q with
      | zero => intro h; omega
      | succ q ih =>
        intro h1 h2
        by_cases hq : q = k
        · subst hq; rw [hx, newBlk_get, if_pos rfl]
        · have h3 := ih (by omega) (by omega)
          have hnaq : ¬ ActAt E ops q := fun h => hc.1 q (by omega) h
          obtain ⟨o, u, ho, h4, _, _⟩ := T.did q (by omega)
          obtain ⟨_, _, h5⟩ := still_facts h4 (fun hk => hnaq ⟨o, ho, hk⟩)
          rcases h5 with h5 | ⟨_, _, y, h5⟩
          · rw [h5]; exact h3
          · have h6 := T.le (j := k + 1) (k := q) (by omega) (by omega)
            rw [hx] at h6
            have : (newBlk (stAt tr s' k).hp x).next = (stAt tr s' k).hp.next + 1 := rfl
            rw [h5, newBlk_get, if_neg (by omega)]
            exact h3
    exact key p hkp (Nat.le_refl _)
end
end Go.Av

/- Regions that draw their order: an operation that is ready. -/
namespace Go.Av
section
variable {P : Program} {E : Env} {R : Rec} {cx : Cx} {ops : Array Oper} {tr : List Tr} {s' : St} {m : Nat} {kind : CallKind} {cs₀ cs : List Frame} {φ φ0 : Phi} {w w0 : World} {a : Act} {D : Nat → Prop}

/-- It is not done, and all that its edges name is. -/
def ReadyAt (ops : Array Oper) (D : Nat → Prop) (j : Nat) (o : Oper) : Prop := ops[j]? = some o ∧ ¬ D j ∧ ∀ e ∈ o.after.toList, Region.binds .any e = true → D e.on
theorem slot_ready (T : TraceOk E R cx ops tr s' m) (hlt : ∀ k, D k → k < m) (hm : m ≤ ops.size) (hd : Down ops.toList D) {j : Nat} {o : Oper} (hr : ReadyAt ops D j o) {t : Nat} (ht : t ∈ namesOf ops.toList o) : SlotAt ops D t j := by
  intro k o' hk hdst
  have hk' : ops.toList[k]? = some o' := by simpa using hk
  have hj' : ops.toList[j]? = some o := by simpa using hr.1
  constructor
  · intro hDk
    rcases Nat.lt_trichotomy k j with h | h | h
    · exact h
    · subst h; exact absurd hDk hr.2.1
    · rcases fine_two T.fine hj' hk' h with h1 | ⟨_, h2, _⟩
      · exact absurd (hd.ahead' T.fine hDk (by have := hlt k hDk; simp; omega) h1) hr.2.1
      · exact absurd ht (h2 t hdst)
  · intro h
    rcases fine_two T.fine hk' hj' h with h1 | ⟨h2, _, _⟩
    · exact hd.ahead T.fine j o hj' hr.2.2 k h1
    · exact absurd ht (h2 t hdst)
theorem cut_ready (T : TraceOk E R cx ops tr s' m) (hlt : ∀ k, D k → k < m) (hm : m ≤ ops.size) (hd : Down ops.toList D) {j : Nat} {o : Oper} (hr : ReadyAt ops D j o) (ha : kindOf E o.op = .act) : CutAt E ops D j := by
  have hj' : ops.toList[j]? = some o := by simpa using hr.1
  constructor
  · rintro k hk ⟨o', hk0, hka⟩
    have hk' : ops.toList[k]? = some o' := by simpa using hk0
    rcases fine_two T.fine hk' hj' hk with h1 | ⟨_, _, h3⟩
    · exact hd.ahead T.fine j o hj' hr.2.2 k h1
    · exact absurd ⟨hka, ha⟩ h3
  · rintro k hk ⟨o', hk0, hka⟩ hDk
    have hk' : ops.toList[k]? = some o' := by simpa using hk0
    rcases Nat.lt_or_ge j k with h | h
    · rcases fine_two T.fine hj' hk' h with h1 | ⟨_, _, h3⟩
      · exact hr.2.1 (hd.ahead' T.fine hDk (by have := hlt k hDk; simp; omega) h1)
      · exact h3 ⟨ha, hka⟩
    · obtain rfl : k = j := by omega
      exact hr.2.1 hDk
/-- The operands are the same on both sides. -/
theorem Inv.sees (I : Inv P E cx ops tr s' m kind cs₀ φ0 w0 D φ a cs w) (T : TraceOk E R cx ops tr s' m) (hm : m ≤ ops.size) {j : Nat} {o : Oper} (hr : ReadyAt ops D j o) (hj : j ≤ m) : Sees (φ.cut (stAt tr s' j).hp.next) (stAt tr s' j).tm a o.op.operands := by
  intro x hx v hv
  cases x with
  | tmp t =>
    have ht : t ∈ namesOf ops.toList o := by
      unfold namesOf
      refine List.mem_append_left _ (List.mem_append_right _ (List.mem_filterMap.2 ⟨.tmp t, by simpa using hx, rfl⟩))
    exact (I.slot t j hj (slot_ready T I.lt hm I.down hr ht) v hv).2
  | const c => exact ofV_rel 9 c v hv
  | global g => simp [ev] at hv
  | func f => simp only [ev, Option.some.injEq] at hv; subst hv; simp only [VRel]; exact ⟨#[], #[], rfl, .nil, .nil⟩
theorem Inv.wanted (I : Inv P E cx ops tr s' m kind cs₀ φ0 w0 D φ a cs w) (T : TraceOk E R cx ops tr s' m) (hm : m ≤ ops.size) {j : Nat} {o : Oper} (hr : ReadyAt ops D j o) (hj : j ≤ m) {c : Bool} (h : wantedV ops.toList o (stAt tr s' j).tm = some c) :
    Region.wanted o (yielded ops a.tmps) = c := by
  refine wanted_of I.size (fun i want g d hg hgi hd v hv => I.slot d j hj (slot_ready T I.lt hm I.down hr ?_) v hv) h
  unfold namesOf
  refine List.mem_append_right _ ?_
  simp only [hg, hgi]
  rw [hd]
  simp
end
end Go.Av

/- Regions that draw their order: the slots behind an operation. -/
namespace Go.Av
section
variable {P : Program} {E : Env} {R : Rec} {cx : Cx} {ops : Array Oper} {tr : List Tr} {s' : St} {m : Nat} {kind : CallKind} {cs₀ cs : List Frame} {φ φ0 φ1 : Phi} {w w0 : World} {a : Act} {D : Nat → Prop}

theorem Inv.slot_next (I : Inv P E cx ops tr s' m kind cs₀ φ0 w0 D φ a cs w) (T : TraceOk E R cx ops tr s' m) (hm : m ≤ ops.size) {j : Nat} {o : Oper} (hr : ReadyAt ops D j o) (hj : j < m) (hle : φ.le φ1) {v : AV} {x : Value} {ds : List Deferred}
    (h1 : oneOp E R cx ops.toList o (stAt tr s' j) = some (.val v (stAt tr s' (j + 1)))) (hv : VRel (φ1.cut (stAt tr s' (j + 1)).hp.next) v x) (t p : Nat) (hp : p ≤ m) (hs : SlotAt ops (fun k => D k ∨ k = j) t p) (u : AV) (hu : (stAt tr s' p).tm.get t = some u) :
    t < cx.nt ∧ VRel (φ1.cut (stAt tr s' p).hp.next) u ((({ a with defers := ds } : Act).put o.dst x).tmps.getD t Go.undef) := by
  obtain ⟨f1, f2, _⟩ := oneOp_facts h1
  by_cases hd : o.dst = some t
  · have hjp : j < p := (hs j o hr.1 hd).1 (.inr rfl)
    have hj' : ops.toList[j]? = some o := by simpa using hr.1
    have key : ∀ q, j + 1 ≤ q → q ≤ p → (stAt tr s' q).tm.get t = some v := by
      intro q
      induction q with
      | zero => intro h; omega
      | succ q ih =>
        intro hq1 hq2
        by_cases hq : q = j
        · subst hq; exact (f2 t hd).2
        · obtain ⟨o', v', ho', h2, _, _⟩ := T.did q (by omega)
          obtain ⟨g1, _⟩ := oneOp_facts h2
          rw [g1 t ?_]
          · exact ih (by omega) (by omega)
          · intro hd'
            have hk' : ops.toList[q]? = some o' := by simpa using ho'
            have hDq : D q := ((hs q o' ho' hd').2 (by omega)).resolve_right hq
            rcases fine_two T.fine hj' hk' (by omega) with h3 | ⟨h3, _, _⟩
            · exact hr.2.1 (I.down.ahead' T.fine hDq (by have := I.lt q hDq; simp; omega) h3)
            · exact h3 t hd (by unfold namesOf; simp [hd'])
    rw [key p hjp (Nat.le_refl _)] at hu
    cases hu
    refine ⟨(f2 t hd).1, ?_⟩
    have hlt : t < a.tmps.size := by rw [I.size]; exact (f2 t hd).1
    have hput : (({ a with defers := ds } : Act).put o.dst x).tmps.getD t Go.undef = x := by simp [Act.put, hd, Array.getD, hlt]
    rw [hput]
    exact hv.mono (Phi.cut_mono φ1 (T.le hjp hp))
  · have hs' : SlotAt ops D t p := by
      intro k o' hk hdk
      have hne : k ≠ j := by rintro rfl; rw [hr.1] at hk; cases hk; exact hd hdk
      rw [← hs k o' hk hdk]
      exact ⟨.inl, fun h => h.resolve_right hne⟩
    obtain ⟨h3, h4⟩ := I.slot t p hp hs' u hu
    refine ⟨h3, ?_⟩
    have hput : (({ a with defers := ds } : Act).put o.dst x).tmps.getD t Go.undef = a.tmps.getD t Go.undef := by
      cases hdd : o.dst with
      | none => rfl
      | some d =>
        have hne : d ≠ t := fun e => hd (by rw [hdd, e])
        simp [Act.put, Array.getD_eq_getD_getElem?, Array.getElem?_setIfInBounds_ne hne]
    rw [hput]
    exact h4.mono (Phi.le_cut hle _)
theorem down_next (hd : Down ops.toList D) {j : Nat} {o : Oper} (hr : ReadyAt ops D j o) : Down ops.toList (fun k => D k ∨ k = j) := by
  rintro k y (hk | rfl) hy e he hb
  · exact .inl (hd k y hk hy e he hb)
  · have : ops.toList[k]? = some o := by simpa using hr.1
    rw [this] at hy; cases hy
    exact .inl (hr.2.2 e he hb)
end
end Go.Av

/- Regions that draw their order: the invariant behind an operation that neither acts nor lays. -/
namespace Go.Av
section
variable {P : Program} {E : Env} {R : Rec} {cx : Cx} {ops : Array Oper} {tr : List Tr} {s' : St} {m : Nat} {kind : CallKind} {cs₀ cs : List Frame} {φ φ0 φ1 : Phi} {w w0 : World} {a : Act} {D : Nat → Prop}

theorem cut_next {j : Nat} (hna : ¬ ActAt E ops j) {p : Nat} : CutAt E ops (fun k => D k ∨ k = j) p ↔ CutAt E ops D p := by
  constructor
  · rintro ⟨h1, h2⟩
    exact ⟨fun k hk ha => (h1 k hk ha).resolve_right (by rintro rfl; exact hna ha), fun k hk ha hD => h2 k hk ha (.inl hD)⟩
  · rintro ⟨h1, h2⟩
    refine ⟨fun k hk ha => .inl (h1 k hk ha), fun k hk ha hD => ?_⟩
    rcases hD with hD | rfl
    · exact h2 k hk ha hD
    · exact hna ha
theorem put_size (a : Act) (dst : Option Tmp) (x : Value) : (a.put dst x).tmps.size = a.tmps.size := by cases dst <;> simp [Act.put]
theorem put_defers (a : Act) (dst : Option Tmp) (x : Value) : (a.put dst x).defers = a.defers := by cases dst <;> rfl
theorem Inv.still (I : Inv P E cx ops tr s' m kind cs₀ φ0 w0 D φ a cs w) (T : TraceOk E R cx ops tr s' m) (hm : m ≤ ops.size) {j : Nat} {o : Oper} (hr : ReadyAt ops D j o) (hj : j < m) (hna : kindOf E o.op ≠ .act) {v : AV} {x : Value}
    (h1 : oneOp E R cx ops.toList o (stAt tr s' j) = some (.val v (stAt tr s' (j + 1)))) (hhp : (stAt tr s' (j + 1)).hp = (stAt tr s' j).hp) (hv : VRel (φ.cut (stAt tr s' (j + 1)).hp.next) v x) {w' : World} (M : More w w') :
    Inv P E cx ops tr s' m kind cs₀ φ0 w0 (fun k => D k ∨ k = j) φ (a.put o.dst x) cs w' := by
  have hna' : ¬ ActAt E ops j := by rintro ⟨o', ho', hk⟩; rw [hr.1] at ho'; cases ho'; exact hna hk
  refine ⟨?_, down_next I.down hr, I.le, fun B L e => ⟨(I.dom B L e).1, Nat.lt_of_lt_of_le (I.dom B L e).2 M.size⟩, by rw [put_size]; exact I.size, ?_, ?_, Nat.le_trans I.more M.size, ?_, ?_, ?_, ?_⟩
  · rintro k (hk | rfl)
    · exact I.lt k hk
    · exact hj
  · intro t p hp hs u hu
    exact I.slot_next T hm hr hj (Phi.le_refl φ) (ds := a.defers) h1 hv t p hp hs u hu
  · intro p hp hc
    obtain ⟨g1, g2, g3, g4⟩ := I.view p hp ((cut_next hna').1 hc)
    exact ⟨g1.more M, g2.more M, by rw [put_defers]; exact g3, g4⟩
  · obtain ⟨p, hp, hc⟩ := I.cut
    exact ⟨p, hp, (cut_next hna').2 hc⟩
  · rintro k x' L (hk | rfl) hka hx g1
    · obtain ⟨g2, g3⟩ := I.laid k x' L hk hka hx g1
      refine ⟨g2, fun hq => ?_⟩
      obtain ⟨g4, g5⟩ := g3 fun i ha hD => hq i ha (.inl hD)
      exact ⟨g4, by rw [M.old _ (I.dom _ L g1).2]; exact g5⟩
    · have := congrArg Heap.next (hhp.symm.trans hx)
      simp [newBlk] at this
  · intro B L e
    rcases I.mapped B L e with g | ⟨k, g1, g2⟩
    · exact .inl g
    · exact .inr ⟨k, .inl g1, g2⟩
  · intro k x' hk hkD hka hx p hkp hp hc
    exact I.late k x' hk (fun h => hkD (.inl h)) hka hx p hkp hp ((cut_next hna').1 hc)
end
end Go.Av

/- Regions that draw their order: the invariant behind an operation that lays a block. -/
namespace Go.Av
section
variable {P : Program} {E : Env} {R : Rec} {cx : Cx} {ops : Array Oper} {tr : List Tr} {s' : St} {m : Nat} {kind : CallKind} {cs₀ cs : List Frame} {φ φ0 φ1 : Phi} {w w0 : World} {a : Act} {D : Nat → Prop}

/-- The rows of blocks of two operations have none in common. -/
theorem TraceOk.apart (T : TraceOk E R cx ops tr s' m) {i j B : Nat} (hi : i < m) (hj : j < m) (h1 : (stAt tr s' i).hp.next ≤ B) (h2 : B < (stAt tr s' (i + 1)).hp.next) (h3 : (stAt tr s' j).hp.next ≤ B) (h4 : B < (stAt tr s' (j + 1)).hp.next) : i = j := by
  rcases Nat.lt_trichotomy i j with h | h | h
  · have := T.le (j := i + 1) (k := j) (by omega) (by omega); omega
  · exact h
  · have := T.le (j := j + 1) (k := i) (by omega) (by omega); omega
/-- The block that an operation lays is mapped only when it has been done. -/
theorem Inv.idle (I : Inv P E cx ops tr s' m kind cs₀ φ0 w0 D φ a cs w) (T : TraceOk E R cx ops tr s' m) {k : Nat} (hk : k < m) (hD : ¬ D k) {B : Nat} (h1 : (stAt tr s' k).hp.next ≤ B) (h2 : B < (stAt tr s' (k + 1)).hp.next) : φ B = none := by
  cases e : φ B with
  | none => rfl
  | some L =>
    rcases I.mapped B L e with g | ⟨i, g1, g2, g3⟩
    · have := T.le (Nat.zero_le k) (by omega); omega
    · have := T.apart (I.lt i g1) hk g2 g3 h1 h2
      subst this; exact absurd g1 hD
theorem Phi.cut_with_lt {φ : Phi} {B n : Nat} {L : Loc} (h : n ≤ B) : (φ.with B L).cut n = φ.cut n := by
  funext C
  unfold Phi.cut Phi.with
  split
  · rw [if_neg (by omega)]
  · rfl
/-- A block more is mapped, of which nothing was. -/
theorem HRel.more_map {h : Heap} {n : Nat} (H : HRel E (φ.cut n) h w) {w' : World} (M : More w w') {B : Nat} {L : Loc} {x : Blk} (hB : φ B = Option.none) (hn : n ≤ h.next) (hBn : B < n) (hL : w.heap.size ≤ L.b) (hL' : L.b < w'.heap.size)
    (hx : h.b.get B = some x) (hb : BRel E ((φ.with B L).cut n) L (some x) w'.heap[L.b]?) : HRel E ((φ.with B L).cut n) h w' := by
  have hle : (φ.cut n).le ((φ.with B L).cut n) := Phi.le_cut (Phi.le_with hB) n
  have cases' : ∀ {C : Nat} {K : Loc}, (φ.with B L).cut n C = some K → (C = B ∧ K = L) ∨ φ.cut n C = some K := by
    intro C K e
    obtain ⟨h1, h2⟩ := Phi.cut_some.1 e
    unfold Phi.with at h2
    split at h2
    · cases h2; exact .inl ⟨by assumption, rfl⟩
    · exact .inr (Phi.cut_some.2 ⟨h1, h2⟩)
  refine ⟨fun C K e => ?_, fun C C' K K' e e' he h1 h2 => ?_, fun C K e => ?_, H.fresh⟩
  · rcases cases' e with ⟨rfl, rfl⟩ | e1
    · exact ⟨by omega, hL'⟩
    · exact ⟨(H.dom C K e1).1, Nat.lt_of_lt_of_le (H.dom C K e1).2 M.size⟩
  · rcases cases' e with ⟨rfl, rfl⟩ | e1
    · rcases cases' e' with ⟨rfl, rfl⟩ | e1'
      · rfl
      · have := (H.dom C' K' e1').2; omega
    · rcases cases' e' with ⟨rfl, rfl⟩ | e1'
      · have := (H.dom C K e1).2; omega
      · exact H.inj C C' K K' e1 e1' he h1 h2
  · rcases cases' e with ⟨rfl, rfl⟩ | e1
    · rw [hx]; exact hb
    · rw [M.old _ (H.dom C K e1).2]
      exact (H.blk C K e1).mono hle
theorem Ext.more_map {h h0 : Heap} {n : Nat} (X : Ext φ0 h0 w0 (φ.cut n) h w) {w' : World} (M : More w w') {B : Nat} {L : Loc} (hB : φ B = none) (h0B : h0.next ≤ B) (hBn : B < n) (hn : n ≤ h.next) (hd : ∀ B L, φ0 B = some L → B < h0.next) (hL : w0.heap.size ≤ L.b) :
    Ext φ0 h0 w0 ((φ.with B L).cut n) h w' := by
  have hle : (φ.cut n).le ((φ.with B L).cut n) := Phi.le_cut (Phi.le_with hB) n
  have X' := X.more M
  refine ⟨Phi.le_trans X.le hle, fun C K e => ?_, X'.next, X'.size, X'.idle, X'.ro, X'.old, X'.os, X'.tape, X'.output⟩
  obtain ⟨h1, h2⟩ := Phi.cut_some.1 e
  unfold Phi.with at h2
  split at h2
  · rename_i hC
    cases h2
    subst hC
    refine .inr ⟨?_, h0B, by omega, .inl hL⟩
    cases hp : φ0 C with
    | none => rfl
    | some K => have := hd _ _ hp; omega
  · exact X.new C K (Phi.cut_some.2 ⟨h1, h2⟩)
theorem newBlk_inj {h : Heap} {x y : Blk} (e : newBlk h x = newBlk h y) : x = y := by
  have h1 := newBlk_get h x h.next
  have h2 := newBlk_get h y h.next
  rw [e, h2] at h1
  simpa using h1.symm

theorem Inv.lays (I : Inv P E cx ops tr s' m kind cs₀ φ0 w0 D φ a cs w) (T : TraceOk E R cx ops tr s' m) (hm : m ≤ ops.size) (hd : ∀ B L, φ0 B = some L → B < (stAt tr s' 0).hp.next) {j : Nat} {o : Oper} (hr : ReadyAt ops D j o) (hj : j < m) (hna : kindOf E o.op ≠ .act) {v : AV} {y : Value} {x : Blk} {φ' : Phi} {w' : World}
    (h1 : oneOp E R cx ops.toList o (stAt tr s' j) = some (.val v (stAt tr s' (j + 1)))) (hhp : (stAt tr s' (j + 1)).hp = newBlk (stAt tr s' j).hp x)
    (hv : VRel φ' v y) (H : HRel E φ' (newBlk (deadHeap (stAt tr s' j).hp.next) x) w') (X : Ext (φ.cut (stAt tr s' j).hp.next) (deadHeap (stAt tr s' j).hp.next) w φ' (newBlk (deadHeap (stAt tr s' j).hp.next) x) w') :
    ∃ φ1, Inv P E cx ops tr s' m kind cs₀ φ0 w0 (fun k => D k ∨ k = j) φ1 (a.put o.dst y) cs w' := by
  have hna' : ¬ ActAt E ops j := by rintro ⟨o', ho', hk⟩; rw [hr.1] at ho'; cases ho'; exact hna hk
  have M : More w w' := X.dead
  have hlo : (stAt tr s' (j + 1)).hp.next = (stAt tr s' j).hp.next + 1 := by rw [hhp]; rfl
  have hidle : φ (stAt tr s' j).hp.next = none := I.idle T hj hr.2.1 (Nat.le_refl _) (by omega)
  -- the new map, up to the block
  have hphi : ∀ B L, φ' B = some L → φ.cut (stAt tr s' j).hp.next B = some L ∨ (B = (stAt tr s' j).hp.next ∧ w.heap.size ≤ L.b) := by
    intro B L e
    rcases X.new B L e with g | ⟨_, g1, g2, g3⟩
    · exact .inl g
    · simp only [newBlk, deadHeap] at g1 g2
      refine .inr ⟨by omega, ?_⟩
      rcases g3 with g3 | ⟨B0, _, _, _, g⟩
      · exact g3
      · exact absurd g (deadHeap_mod _ _)
  cases hL : φ' (stAt tr s' j).hp.next with
  | none =>
    -- the block is named by nobody
    have hle : φ'.le (φ.cut (stAt tr s' j).hp.next) := by
      intro B L e
      rcases hphi B L e with g | ⟨rfl, _⟩
      · exact g
      · rw [hL] at e; cases e
    refine ⟨φ, ?_⟩
    have hv' : VRel (φ.cut (stAt tr s' (j + 1)).hp.next) v y := hv.mono (Phi.le_trans hle (Phi.cut_mono φ (by omega)))
    refine ⟨?_, down_next I.down hr, I.le, fun B L e => ⟨(I.dom B L e).1, Nat.lt_of_lt_of_le (I.dom B L e).2 M.size⟩, by rw [put_size]; exact I.size, ?_, ?_, Nat.le_trans I.more M.size, ?_, ?_, ?_, ?_⟩
    · rintro k (hk | rfl)
      · exact I.lt k hk
      · exact hj
    · intro t p hp hs u hu
      exact I.slot_next T hm hr hj (Phi.le_refl φ) (ds := a.defers) h1 hv' t p hp hs u hu
    · intro p hp hc
      obtain ⟨g1, g2, g3, g4⟩ := I.view p hp ((cut_next hna').1 hc)
      exact ⟨g1.more M, g2.more M, by rw [put_defers]; exact g3, g4⟩
    · obtain ⟨p, hp, hc⟩ := I.cut
      exact ⟨p, hp, (cut_next hna').2 hc⟩
    · rintro k x' L (hk | rfl) hka hx g1
      · obtain ⟨g2, g3⟩ := I.laid k x' L hk hka hx g1
        refine ⟨g2, fun hq => ?_⟩
        obtain ⟨g4, g5⟩ := g3 fun i ha hD => hq i ha (.inl hD)
        exact ⟨g4, by rw [M.old _ (I.dom _ L g1).2]; exact g5⟩
      · rw [hidle] at g1; cases g1
    · intro B L e
      rcases I.mapped B L e with g | ⟨k, g1, g2⟩
      · exact .inl g
      · exact .inr ⟨k, .inl g1, g2⟩
    · intro k x' hk hkD hka hx p hkp hp hc
      exact I.late k x' hk (fun h => hkD (.inl h)) hka hx p hkp hp ((cut_next hna').1 hc)
  | some L =>
    have hLb : w.heap.size ≤ L.b := by
      rcases hphi _ L hL with g | ⟨_, g⟩
      · have := (Phi.cut_some.1 g).1; omega
      · exact g
    have hle1 : φ.le (φ.with (stAt tr s' j).hp.next L) := Phi.le_with hidle
    have hle2 : φ'.le ((φ.with (stAt tr s' j).hp.next L).cut (stAt tr s' (j + 1)).hp.next) := by
      intro B K e
      rcases hphi B K e with g | ⟨rfl, _⟩
      · exact Phi.cut_mono _ (by omega) _ _ (Phi.le_cut hle1 _ _ _ g)
      · rw [hL] at e; cases e
        exact Phi.cut_some.2 ⟨by omega, by simp [Phi.with]⟩
    have hblk : BRel E ((φ.with (stAt tr s' j).hp.next L).cut (stAt tr s' (j + 1)).hp.next) L (some x) w'.heap[L.b]? := by
      have := H.blk _ L hL
      rw [newBlk_get, if_pos (by rfl)] at this
      exact this.mono hle2
    have hLw : L.b < w'.heap.size := (H.dom _ L hL).2
    refine ⟨φ.with (stAt tr s' j).hp.next L, ?_⟩
    have hwith : ∀ {B K}, (φ.with (stAt tr s' j).hp.next L) B = some K → (B = (stAt tr s' j).hp.next ∧ K = L) ∨ φ B = some K := by
      intro B K e
      unfold Phi.with at e
      split at e
      · cases e; exact .inl ⟨by assumption, rfl⟩
      · exact .inr e
    have hjm := T.le (j := j + 1) (k := m) (by omega) (Nat.le_refl _)
    refine ⟨?_, down_next I.down hr, Phi.le_trans I.le hle1, fun B K e => ?_, by rw [put_size]; exact I.size, ?_, ?_, Nat.le_trans I.more M.size, ?_, ?_, ?_, ?_⟩
    · rintro k (hk | rfl)
      · exact I.lt k hk
      · exact hj
    · rcases hwith e with ⟨rfl, rfl⟩ | e1
      · exact ⟨by omega, hLw⟩
      · exact ⟨(I.dom B K e1).1, Nat.lt_of_lt_of_le (I.dom B K e1).2 M.size⟩
    · intro t p hp hs u hu
      exact I.slot_next T hm hr hj hle1 (ds := a.defers) h1 (hv.mono hle2) t p hp hs u hu
    · intro p hp hc
      have hc' := (cut_next hna').1 hc
      obtain ⟨g1, g2, g3, g4⟩ := I.view p hp hc'
      have hle3 := Phi.le_cut hle1 (stAt tr s' p).hp.next
      refine ⟨?_, ?_, by rw [put_defers]; exact g3.mono hle3, g4.mono hle3⟩
      · by_cases hpj : p ≤ j
        · rw [Phi.cut_with_lt (T.le hpj (by omega))]; exact g1.more M
        · have hjp := T.le (j := j + 1) (k := p) (by omega) hp
          exact g1.more_map M hidle (Nat.le_refl _) (by omega) hLb hLw (I.late j x hj hr.2.1 hna' hhp p (by omega) hp hc') (hblk.mono (Phi.cut_mono _ hjp))
      · by_cases hpj : p ≤ j
        · rw [Phi.cut_with_lt (T.le hpj (by omega))]; exact g2.more M
        · have hjp := T.le (j := j + 1) (k := p) (by omega) hp
          have h0j := T.le (Nat.zero_le j) (by omega)
          have := I.more
          exact g2.more_map M hidle h0j (by omega) (Nat.le_refl _) hd (by omega)
    · obtain ⟨p, hp, hc⟩ := I.cut
      exact ⟨p, hp, (cut_next hna').2 hc⟩
    · rintro k x' K (hk | rfl) hka hx g1
      · have hlk : (stAt tr s' (k + 1)).hp.next = (stAt tr s' k).hp.next + 1 := by rw [hx]; rfl
        rcases hwith g1 with ⟨e1, rfl⟩ | g1
        · have := T.apart (I.lt k hk) hj (Nat.le_refl _) (by omega) (by omega) (by omega)
          subst this; exact absurd hk hr.2.1
        · obtain ⟨g2, g3⟩ := I.laid k x' K hk hka hx g1
          have hKw := (I.dom _ K g1).2
          refine ⟨g2, fun hq => ?_⟩
          obtain ⟨g4, g5⟩ := g3 fun i ha hD => hq i ha (.inl hD)
          refine ⟨fun B K' e he => ?_, by rw [M.old _ hKw]; exact g5.mono (Phi.le_cut hle1 _)⟩
          rcases hwith e with ⟨rfl, rfl⟩ | e1
          · omega
          · exact g4 B K' e1 he
      · rcases hwith g1 with ⟨_, rfl⟩ | g1
        · rw [hhp] at hx
          cases newBlk_inj hx
          refine ⟨by have := I.more; omega, fun _ => ⟨fun B K' e he => ?_, hblk⟩⟩
          rcases hwith e with ⟨rfl, _⟩ | e1
          · rfl
          · have := (I.dom B K' e1).2; omega
        · rw [hidle] at g1; cases g1
    · intro B K e
      rcases hwith e with ⟨rfl, rfl⟩ | e1
      · exact .inr ⟨j, .inr rfl, Nat.le_refl _, by omega⟩
      · rcases I.mapped B K e1 with g | ⟨k, g1, g2⟩
        · exact .inl g
        · exact .inr ⟨k, .inl g1, g2⟩
    · intro k x' hk hkD hka hx p hkp hp hc
      exact I.late k x' hk (fun h => hkD (.inl h)) hka hx p hkp hp ((cut_next hna').1 hc)
end
end Go.Av

/- Regions that draw their order: the invariant behind an operation that acts. -/
namespace Go.Av
section
variable {P : Program} {E : Env} {R : Rec} {cx : Cx} {ops : Array Oper} {tr : List Tr} {s' : St} {m : Nat} {kind : CallKind} {cs₀ cs cs1 : List Frame} {φ φ0 φ1 : Phi} {w w0 : World} {a : Act} {D : Nat → Prop}

/-- Two maps, the one for a row of numbers. -/
def Phi.mid (φ ψ : Phi) (lo hi : Nat) : Phi := fun B => if lo ≤ B ∧ B < hi then ψ B else φ B
theorem Phi.mid_in {φ ψ : Phi} {lo hi B : Nat} (h : lo ≤ B ∧ B < hi) : φ.mid ψ lo hi B = ψ B := by unfold Phi.mid; rw [if_pos h]
theorem Phi.mid_out {φ ψ : Phi} {lo hi B : Nat} (h : ¬ (lo ≤ B ∧ B < hi)) : φ.mid ψ lo hi B = φ B := by unfold Phi.mid; rw [if_neg h]

/-- Between two places without acts, a block stays. -/
theorem TraceOk.keeps (T : TraceOk E R cx ops tr s' m) {q p B : Nat} {x : Blk} (hp : p ≤ m) (hB : B < (stAt tr s' q).hp.next) (hx : (stAt tr s' q).hp.b.get B = some x) (hna : ∀ k, q ≤ k → k < p → ¬ ActAt E ops k) : q ≤ p → (stAt tr s' p).hp.b.get B = some x := by
  intro hqp
  induction p with
  | zero => obtain rfl : q = 0 := by omega
            exact hx
  | succ p ih =>
    by_cases h : q = p + 1
    · subst h; exact hx
    · have h3 := ih (by omega) (fun k h1 h2 => hna k h1 (by omega)) (by omega)
      obtain ⟨o, u, ho, h4, _, _⟩ := T.did p (by omega)
      obtain ⟨_, _, h5⟩ := still_facts h4 (fun hk => hna p (by omega) (by omega) ⟨o, ho, hk⟩)
      rcases h5 with h5 | ⟨_, _, y, h5⟩
      · rw [h5]; exact h3
      · have h6 := T.le (j := q) (k := p) (by omega) (by omega)
        rw [h5, newBlk_get, if_neg (by omega)]
        exact h3

theorem Inv.acts (I : Inv P E cx ops tr s' m kind cs₀ φ0 w0 D φ a cs w) (T : TraceOk E R cx ops tr s' m) (hm : m ≤ ops.size) (H0 : HRel E φ0 (stAt tr s' 0).hp w0) {j : Nat} {o : Oper} (hr : ReadyAt ops D j o) (hj : j < m) (hac : kindOf E o.op = .act) {v : AV} {y : Value} {φ' : Phi} {w' : World} {ds : List Deferred}
    (h1 : oneOp E R cx ops.toList o (stAt tr s' j) = some (.val v (stAt tr s' (j + 1))))
    (hv : VRel φ' v y) (hdf : DRel φ' (stAt tr s' (j + 1)).df ds) (hup : URel φ' kind cs₀ cs1 (stAt tr s' (j + 1)).up) (H : HRel E φ' (stAt tr s' (j + 1)).hp w') (X : Ext (φ.cut (stAt tr s' j).hp.next) (stAt tr s' j).hp w φ' (stAt tr s' (j + 1)).hp w') :
    ∃ φ1, Inv P E cx ops tr s' m kind cs₀ φ0 w0 (fun k => D k ∨ k = j) φ1 (({ a with defers := ds } : Act).put o.dst y) cs1 w' := by
  have hact : ActAt E ops j := ⟨o, hr.1, hac⟩
  have hcj := cut_ready T I.lt hm I.down hr hac
  obtain ⟨V1, V2, V3, V4⟩ := I.view j (by omega) hcj
  have hjj := X.next
  have hjm := T.le (j := j + 1) (k := m) (by omega) (Nat.le_refl _)
  have hidle : ∀ B, (stAt tr s' j).hp.next ≤ B → B < (stAt tr s' (j + 1)).hp.next → φ B = none := fun B g1 g2 => I.idle T hj hr.2.1 g1 g2
  let ψ := φ.mid φ' (stAt tr s' j).hp.next (stAt tr s' (j + 1)).hp.next
  have hin : ∀ {B}, (stAt tr s' j).hp.next ≤ B → B < (stAt tr s' (j + 1)).hp.next → ψ B = φ' B := fun g1 g2 => Phi.mid_in ⟨g1, g2⟩
  have hout : ∀ {B}, ¬ ((stAt tr s' j).hp.next ≤ B ∧ B < (stAt tr s' (j + 1)).hp.next) → ψ B = φ B := fun g => Phi.mid_out g
  have hle : φ.le ψ := by
    intro B L e
    by_cases g : (stAt tr s' j).hp.next ≤ B ∧ B < (stAt tr s' (j + 1)).hp.next
    · rw [hidle B g.1 g.2] at e; cases e
    · rw [hout g]; exact e
  -- what the step's map is
  have hphi : ∀ B L, φ' B = some L → (B < (stAt tr s' j).hp.next ∧ φ B = some L) ∨ ((stAt tr s' j).hp.next ≤ B ∧ B < (stAt tr s' (j + 1)).hp.next ∧ (w.heap.size ≤ L.b ∨ ∃ B0 L0, φ.cut (stAt tr s' j).hp.next B0 = some L0 ∧ L0.b = L.b ∧ Mod (stAt tr s' j).hp B0)) := by
    intro B L e
    rcases X.new B L e with g | ⟨_, g1, g2, g3⟩
    · exact .inl (Phi.cut_some.1 g)
    · exact .inr ⟨g1, g2, g3⟩
  have hcut : ψ.cut (stAt tr s' (j + 1)).hp.next = φ' := by
    funext B
    by_cases g2 : B < (stAt tr s' (j + 1)).hp.next
    · unfold Phi.cut
      rw [if_pos g2]
      by_cases g1 : (stAt tr s' j).hp.next ≤ B
      · exact hin g1 g2
      · rw [hout (fun g => g1 g.1)]
        cases e : φ B with
        | some L => rw [X.le B L (Phi.cut_some.2 ⟨by omega, e⟩)]
        | none =>
          cases e' : φ' B with
          | none => rfl
          | some L =>
            rcases hphi B L e' with ⟨_, g⟩ | ⟨g, _⟩
            · rw [e] at g; cases g
            · exact absurd g g1
    · unfold Phi.cut
      rw [if_neg g2]
      cases e' : φ' B with
      | none => rfl
      | some L => exact absurd (H.dom B L e').1 g2
  have hpsi : ∀ {B L}, ψ B = some L → (((stAt tr s' j).hp.next ≤ B ∧ B < (stAt tr s' (j + 1)).hp.next) ∧ φ' B = some L) ∨ φ B = some L := by
    intro B L e
    by_cases g : (stAt tr s' j).hp.next ≤ B ∧ B < (stAt tr s' (j + 1)).hp.next
    · rw [hin g.1 g.2] at e; exact .inl ⟨g, e⟩
    · rw [hout g] at e; exact .inr e
  -- acts that are done
  have hbefore : ∀ k, ActAt E ops k → D k → k < j := fun k ha hD => by
    rcases Nat.lt_or_ge k j with g | g
    · exact g
    · exact absurd hD (hcj.2 k g ha)
  -- blocks that have been laid early
  have hlaid : ∀ k x L, D k → ¬ ActAt E ops k → (stAt tr s' (k + 1)).hp = newBlk (stAt tr s' k).hp x → j < k → φ (stAt tr s' k).hp.next = some L → w0.heap.size ≤ L.b ∧ L.b < w'.heap.size ∧ (∀ B L', ψ B = some L' → L'.b = L.b → B = (stAt tr s' k).hp.next) ∧ BRel E (ψ.cut (stAt tr s' (k + 1)).hp.next) L (some x) w'.heap[L.b]? := by
    intro k x L hD hna hx hjk hL
    obtain ⟨g1, g2⟩ := I.laid k x L hD hna hx hL
    obtain ⟨g3, g4⟩ := g2 fun i ha hDi => by have := hbefore i ha hDi; omega
    have hLw := (I.dom _ L hL).2
    have hlo := T.le (j := j + 1) (k := k) (by omega) (by have := I.lt k hD; omega)
    refine ⟨g1, Nat.lt_of_lt_of_le hLw X.size, fun B L' e he => ?_, ?_⟩
    · rcases hpsi e with ⟨g, e'⟩ | e'
      · rcases hphi B L' e' with ⟨g', _⟩ | ⟨_, _, g5⟩
        · omega
        · rcases g5 with g5 | ⟨B0, L0, e0, he0, _⟩
          · omega
          · obtain ⟨e1, e2⟩ := Phi.cut_some.1 e0
            have := g3 B0 L0 e2 (by omega)
            omega
      · exact g3 B L' e' he
    · rw [X.old L.b hLw (fun B L' e he _ => ?_)]
      · exact g4.mono (Phi.le_cut hle _)
      · obtain ⟨e1, e2⟩ := Phi.cut_some.1 e
        have := g3 B L' e2 he
        omega
  -- where the cut is
  have hnext : ∀ p, CutAt E ops (fun k => D k ∨ k = j) p → j < p ∧ ∀ k, j + 1 ≤ k → k < p → ¬ ActAt E ops k := by
    rintro p ⟨g1, g2⟩
    refine ⟨?_, fun k h3 h4 ha => ?_⟩
    · rcases Nat.lt_or_ge j p with g | g
      · exact g
      · exact absurd (.inr rfl) (g2 j g hact)
    · rcases g1 k h4 ha with g | g
      · have := hbefore k ha g; omega
      · omega
  have hview : ∀ p, p ≤ m → (∀ k, j + 1 ≤ k → k < p → ¬ ActAt E ops k) → j + 1 ≤ p → (∀ k, j + 1 ≤ k → k < p → ∀ L, ψ (stAt tr s' k).hp.next = some L → D k ∨ (stAt tr s' (k + 1)).hp.next = (stAt tr s' k).hp.next) →
      HRel E (ψ.cut (stAt tr s' p).hp.next) (stAt tr s' p).hp w' ∧ Ext φ0 (stAt tr s' 0).hp w0 (ψ.cut (stAt tr s' p).hp.next) (stAt tr s' p).hp w' ∧ (stAt tr s' p).df = (stAt tr s' (j + 1)).df ∧ (stAt tr s' p).up = (stAt tr s' (j + 1)).up := by
    intro p
    induction p with
    | zero => intro _ _ h; omega
    | succ p ih =>
      intro hp hna hjp hmap
      by_cases hpj : p = j
      · subst hpj
        rw [hcut]
        exact ⟨H, Ext.trans H0 V2 X, rfl, rfl⟩
      · obtain ⟨i1, i2, i3, i4⟩ := ih (by omega) (fun k g1 g2 => hna k g1 (by omega)) (by omega) (fun k g1 g2 => hmap k g1 (by omega))
        have hnap := hna p (by omega) (by omega)
        obtain ⟨u1, u2, u3, u4⟩ := view_up T (by omega) hnap (fun B L e => (H0.dom B L e).1) i1 i2 (fun L x e hx => by
          rcases hmap p (by omega) (by omega) L e with hD | hsame
          · have hlo : (stAt tr s' (p + 1)).hp.next = (stAt tr s' p).hp.next + 1 := by rw [hx]; rfl
            have hjp' := T.le (j := j + 1) (k := p) (by omega) (by omega)
            have e' : φ (stAt tr s' p).hp.next = some L := by rw [hout (by omega)] at e; exact e
            exact hlaid p x L hD hnap hx (by omega) e'
          · rw [hx] at hsame; simp [newBlk] at hsame)
        exact ⟨u1, u2, u3.trans i3, u4.trans i4⟩
  have hmapD : ∀ p, p ≤ m → ∀ k, j + 1 ≤ k → k < p → ∀ L, ψ (stAt tr s' k).hp.next = some L → D k ∨ (stAt tr s' (k + 1)).hp.next = (stAt tr s' k).hp.next := by
    intro p hp k g1 g2 L e
    by_cases hlo : (stAt tr s' (k + 1)).hp.next = (stAt tr s' k).hp.next
    · exact .inr hlo
    · have hkk := T.le (j := k) (k := k + 1) (by omega) (by omega)
      have hjk := T.le (j := j + 1) (k := k) (by omega) (by omega)
      rw [hout (by omega)] at e
      rcases Classical.em (D k) with hD | hD
      · exact .inl hD
      · rw [I.idle T (by omega) hD (Nat.le_refl _) (by omega)] at e; cases e
  refine ⟨ψ, ?_, down_next I.down hr, Phi.le_trans I.le hle, fun B L e => ?_, by rw [put_size]; exact I.size, ?_, ?_, Nat.le_trans I.more X.size, ?_, ?_, ?_, ?_⟩
  · rintro k (hk | rfl)
    · exact I.lt k hk
    · exact hj
  · rcases hpsi e with ⟨g, e'⟩ | e'
    · have := H.dom B L e'; omega
    · exact ⟨(I.dom B L e').1, Nat.lt_of_lt_of_le (I.dom B L e').2 X.size⟩
  · intro t p hp hs u hu
    exact I.slot_next T hm hr hj hle (ds := ds) h1 (by rw [hcut]; exact hv) t p hp hs u hu
  · intro p hp hc
    obtain ⟨g1, g2⟩ := hnext p hc
    obtain ⟨i1, i2, i3, i4⟩ := hview p hp g2 g1 (hmapD p hp)
    have hle3 : φ'.le (ψ.cut (stAt tr s' p).hp.next) := by rw [← hcut]; exact Phi.cut_mono ψ (T.le g1 hp)
    refine ⟨i1, i2, ?_, ?_⟩
    · rw [put_defers, i3]; exact hdf.mono hle3
    · rw [i4]; exact hup.mono hle3
  · refine ⟨j + 1, hj, fun k hk ha => ?_, fun k hk ha hD => ?_⟩
    · by_cases hkj : k = j
      · exact .inr hkj
      · exact .inl (hcj.1 k (by omega) ha)
    · rcases hD with hD | hD
      · have := hbefore k ha hD; omega
      · omega
  · rintro k x L hk hka hx e
    have hkj : k ≠ j := by rintro rfl; exact hka hact
    have hD : D k := hk.resolve_right hkj
    have hlo : (stAt tr s' (k + 1)).hp.next = (stAt tr s' k).hp.next + 1 := by rw [hx]; rfl
    rcases hpsi e with ⟨g, _⟩ | e'
    · exact absurd (T.apart (I.lt k hD) hj (Nat.le_refl _) (by omega) g.1 g.2) hkj
    · refine ⟨(I.laid k x L hD hka hx e').1, fun hq => ?_⟩
      have := hlaid k x L hD hka hx (hq j hact (.inr rfl)) e'
      exact this.2.2
  · intro B L e
    rcases hpsi e with ⟨g, _⟩ | e'
    · exact .inr ⟨j, .inr rfl, g.1, g.2⟩
    · rcases I.mapped B L e' with g | ⟨k, g1, g2⟩
      · exact .inl g
      · exact .inr ⟨k, .inl g1, g2⟩
  · intro k x hk hkD hka hx p hkp hp hc
    obtain ⟨g1, g2⟩ := hnext p hc
    have hlo : (stAt tr s' (k + 1)).hp.next = (stAt tr s' k).hp.next + 1 := by rw [hx]; rfl
    have hkj : k ≠ j := fun e => hkD (.inr e)
    by_cases hkj' : k < j
    · have h2 := I.late k x hk (fun h => hkD (.inl h)) hka hx j hkj' (by omega) hcj
      have hlt := T.le (j := k + 1) (k := j) (by omega) (by omega)
      have hn : φ (stAt tr s' k).hp.next = none := I.idle T hk (fun h => hkD (.inl h)) (Nat.le_refl _) (by omega)
      have h3 : (stAt tr s' (j + 1)).hp.b.get (stAt tr s' k).hp.next = some x := by
        rw [X.idle _ (by omega) ?_]
        · exact h2
        · unfold Phi.cut; rw [if_pos (by omega)]; exact hn
      exact T.keeps hp (by omega) h3 g2 g1
    · have h3 : (stAt tr s' (k + 1)).hp.b.get (stAt tr s' k).hp.next = some x := by rw [hx, newBlk_get, if_pos rfl]
      exact T.keeps hp (by omega) h3 (fun i g3 g4 => g2 i (by omega) g4) (by omega)
end
end Go.Av

/- Regions that draw their order: one operation on the machine. -/
namespace Go.Av
section
variable {P : Program} {E : Env} {R : Rec} {cx : Cx} {ops : Array Oper} {tr : List Tr} {s' : St} {m : Nat} {cs₀ cs cs1 : List Frame} {φ φ0 φ1 : Phi} {w w0 : World} {a : Act} {D : Nat → Prop} {b : Frame}

/-- What is looked at is the same in each heap in which it may be asked. -/
def Stab (E : Env) (R : Rec) (cx : Cx) (ops : Array Oper) (tr : List Tr) (s' : St) (m : Nat) : Prop :=
  ∀ j o v, j < m → ops[j]? = some o → kindOf E o.op = .look → wantedV ops.toList o (stAt tr s' j).tm = some true → oneOp E R cx ops.toList o (stAt tr s' j) = some (.val v (stAt tr s' (j + 1))) →
    ∀ p, p ≤ m → (ActAt E ops p ∨ p = m) → (∀ e, ActAt E ops e → ¬ ((ahead (aheads ops.toList []) e j = true ∧ p ≤ e) ∨ (ahead (aheads ops.toList []) j e = true ∧ e < p))) →
      ∃ st', opGo E R cx o.op { stAt tr s' j with hp := (stAt tr s' p).hp } = some (.val v st')

/-- The cut, at an act or at the end. -/
theorem cut_far (hc : ∃ p, p ≤ m ∧ CutAt E ops D p) : ∃ p, p ≤ m ∧ CutAt E ops D p ∧ (ActAt E ops p ∨ p = m) := by
  obtain ⟨p, hp, hc⟩ := hc
  obtain ⟨n, hn⟩ : ∃ n, n = m - p := ⟨_, rfl⟩
  induction n generalizing p with
  | zero => exact ⟨p, hp, hc, .inr (by omega)⟩
  | succ n ih =>
    rcases Classical.em (ActAt E ops p) with ha | ha
    · exact ⟨p, hp, hc, .inl ha⟩
    · refine ih (p + 1) (by omega) ⟨fun k hk hka => hc.1 k ?_ hka, fun k hk hka => hc.2 k (by omega) hka⟩ (by omega)
      rcases Nat.lt_or_ge k p with h | h
      · exact h
      · obtain rfl : k = p := by omega
        exact absurd hka ha
/-- The whole map, over the heap of a view. -/
theorem Inv.whole {kind : CallKind} (I : Inv P E cx ops tr s' m kind cs₀ φ0 w0 D φ a cs w) (T : TraceOk E R cx ops tr s' m) {p : Nat} (hp : p ≤ m) (hc : CutAt E ops D p) : HRel E φ ⟨(stAt tr s' p).hp.b, (stAt tr s' m).hp.next⟩ w := by
  obtain ⟨H, _⟩ := I.view p hp hc
  have hpm := T.le hp (Nat.le_refl m)
  have late : ∀ B L, φ B = some L → (stAt tr s' p).hp.next ≤ B → ∃ k, D k ∧ ¬ ActAt E ops k ∧ B = (stAt tr s' k).hp.next ∧ p ≤ k ∧ ∃ x, (stAt tr s' (k + 1)).hp = newBlk (stAt tr s' k).hp x := by
    intro B L e hB
    rcases I.mapped B L e with g | ⟨k, g1, g2, g3⟩
    · have := T.le (Nat.zero_le p) hp; omega
    · have hkm := I.lt k g1
      have hpk : p ≤ k := by
        rcases Nat.lt_or_ge k p with h | h
        · have := T.le (j := k + 1) (k := p) (by omega) hp; omega
        · exact h
      have hna : ¬ ActAt E ops k := fun ha => hc.2 k hpk ha g1
      obtain ⟨o, v, ho, h1, _, _⟩ := T.did k hkm
      obtain ⟨_, _, h5⟩ := still_facts h1 (fun hk => hna ⟨o, ho, hk⟩)
      rcases h5 with h5 | ⟨_, _, x, h5⟩
      · rw [h5] at g3; omega
      · refine ⟨k, g1, hna, ?_, hpk, x, h5⟩
        have : (newBlk (stAt tr s' k).hp x).next = (stAt tr s' k).hp.next + 1 := rfl
        rw [h5] at g3; omega
  have uniq : ∀ B B' L L', φ B = some L → φ B' = some L' → L.b = L'.b → (stAt tr s' p).hp.next ≤ B → B = B' := by
    intro B B' L L' e e' he hB
    obtain ⟨k, hD, hna, rfl, hpk, x, hx⟩ := late B L e hB
    obtain ⟨_, g⟩ := I.laid k x L hD hna hx e
    obtain ⟨g1, _⟩ := g fun i ha hDi => by
      rcases Nat.lt_or_ge i p with h | h
      · omega
      · exact absurd hDi (hc.2 i h ha)
    exact (g1 B' L' e' he.symm).symm
  refine ⟨fun B L e => I.dom B L e, fun B B' L L' e e' he h1 h2 => ?_, fun B L e => ?_, fun B hB => H.fresh B (by simp only at hB; omega)⟩
  · by_cases hB : (stAt tr s' p).hp.next ≤ B
    · exact uniq B B' L L' e e' he hB
    · by_cases hB' : (stAt tr s' p).hp.next ≤ B'
      · exact (uniq B' B L' L e' e he.symm hB').symm
      · exact H.inj B B' L L' (Phi.cut_some.2 ⟨by omega, e⟩) (Phi.cut_some.2 ⟨by omega, e'⟩) he h1 h2
  · by_cases hB : (stAt tr s' p).hp.next ≤ B
    · simp only [H.fresh B hB, BRel]
    · exact (H.blk B L (Phi.cut_some.2 ⟨by omega, e⟩)).mono (Phi.cut_le φ _)

theorem draw_step (hE : E.Ok P) (hR : AllOk P E R) (hx0 : XRel φ0 cx b) (I : Inv P E cx ops tr s' m b.kind cs₀ φ0 w0 D φ a cs w) (T : TraceOk E R cx ops tr s' m) (hS : Stab E R cx ops tr s' m) (hm : m ≤ ops.size) (H0 : HRel E φ0 (stAt tr s' 0).hp w0) {j : Nat} {o : Oper}
    (hr : ReadyAt ops D j o) (hj : j < m) (rest : List Nat) (k : List Item) :
    ∃ φ1 a1 cs1 w1, Steps P (lone (b.atR a (.inRegion ops (j :: rest) :: k)) cs w) (lone (b.atR a1 (.inRegion ops rest :: k)) cs1 w1) ∧ Inv P E cx ops tr s' m b.kind cs₀ φ0 w0 (fun k => D k ∨ k = j) φ1 a1 cs1 w1 := by
  obtain ⟨o', v, ho', h1, hbel, _⟩ := T.did j hj
  rw [hr.1] at ho'; cases ho'
  have hd0 : ∀ B L, φ0 B = some L → B < (stAt tr s' 0).hp.next := fun B L e => (H0.dom B L e).1
  obtain ⟨f1, f2, f3⟩ := oneOp_facts h1
  rcases f3 with ⟨hw, rfl, e1, e2, e3⟩ | ⟨hw, s1, hq, e1, e2, e3⟩
  · -- passed over
    have hwm := I.wanted T hm hr (by omega) hw
    have hs := stepR_op_skip (P := P) (b := b) (a := a) (k := k) (cs := cs) (w := w) (ops := ops) (i := j) (rest := rest) (by simp [hr.1, hwm])
    simp only [hr.1, Option.bind_some] at hs
    by_cases hac : kindOf E o.op = .act
    · -- nothing has been done, where acts are
      obtain ⟨V1, V2, V3, V4⟩ := I.view j (by omega) (cut_ready T I.lt hm I.down hr hac)
      obtain ⟨φ1, I1⟩ := I.acts (φ' := φ.cut (stAt tr s' j).hp.next) (w' := w) (ds := a.defers) (cs1 := cs) (y := Go.undef) T hm H0 hr hj hac h1 (by simp [VRel]) (by rw [e2]; exact V3) (by rw [e3]; exact V4) (by rw [e1]; exact V1) (by rw [e1]; exact .refl ..)
      exact ⟨φ1, _, cs, w, .one hs, I1⟩
    · exact ⟨φ, _, cs, w, .one hs, I.still T hm hr hj hac h1 e1 (by simp [VRel]) ⟨fun _ _ => rfl, Nat.le_refl _, rfl, rfl, rfl⟩⟩
  · have hwm := I.wanted T hm hr (by omega) hw
    have hsees := I.sees T hm hr (by omega)
    have hdead : HRel E (φ.cut (stAt tr s' j).hp.next) (deadHeap (stAt tr s' j).hp.next) w := deadHeap_rel (h := (stAt tr s' m).hp) I.dom _
    -- an operation on its own
    have alone : (hna : kindOf E o.op ≠ .act) → (hnl : kindOf E o.op ≠ .look) → ∀ (st' : St), opGo E R cx o.op { stAt tr s' j with hp := deadHeap (stAt tr s' j).hp.next } = some (.val v st') →
        ∃ φ' x w', Steps P (lone (b.atR a (.inRegion ops (j :: rest) :: k)) cs w) (lone (b.atR (a.put o.dst x) (.inRegion ops rest :: k)) cs w') ∧ VRel φ' v x ∧ HRel E φ' st'.hp w' ∧ Ext (φ.cut (stAt tr s' j).hp.next) (deadHeap (stAt tr s' j).hp.next) w φ' st'.hp w' := by
      intro hna hnl st' hgo
      have hnd : ∀ c, o.op ≠ .defer c := fun c e => hna (by rw [e]; rfl)
      have hd := op_done (P := P) hE (st := { stAt tr s' j with hp := deadHeap (stAt tr s' j).hp.next }) hdead (a := a) hsees hgo (fun c e => by
        exfalso
        rw [e] at hna hnl
        simp only [kindOf] at hna hnl
        split at hna
        · rename_i h; rw [h] at hnl; exact hnl rfl
        · exact hna rfl) hnd
      have hsem := Oper.semAt_eq b.roundOf a.eval o hnd
      obtain ⟨_, _, _, φ', n, w', hr', hn, hH, hX⟩ := hd
      rw [← hsem] at hr'
      rcases hn with ⟨x, rfl, hv⟩ | ⟨rfl, rfl⟩
      · exact ⟨φ', x, w', .one (step_value hr.1 hwm hr'), hv, hH, hX⟩
      · exact ⟨φ', Go.undef, w', .one (step_skipped hr.1 hwm hr'), by simp [VRel], hH, hX⟩
    cases hk : kindOf E o.op with
    | reck =>
      obtain ⟨g1, g2⟩ := reck_go hk hq
      obtain ⟨φ', x, w', hst, hv, hH, hX⟩ := alone (by rw [hk]; simp) (by rw [hk]; simp) _ (g2 { stAt tr s' j with hp := deadHeap (stAt tr s' j).hp.next } rfl)
      have hle : φ'.le (φ.cut (stAt tr s' j).hp.next) := by
        intro B L e
        rcases hX.new B L e with g | ⟨_, g3, g4, _⟩
        · exact g
        · simp only [deadHeap] at g3 g4; omega
      refine ⟨φ, _, cs, w', hst, I.still T hm hr hj (by rw [hk]; simp) h1 (by rw [e1, g1]) ?_ hX.dead⟩
      rw [e1, g1]
      exact hv.mono hle
    | look =>
      obtain ⟨g1, _⟩ := look_go hk hq
      obtain ⟨p, hp, hc, hpa⟩ := cut_far I.cut
      have hj' : ops.toList[j]? = some o := by simpa using hr.1
      obtain ⟨st2, hst2⟩ := hS j o v hj hr.1 hk hw h1 p hp hpa (by
        rintro e ha (⟨ha1, ha2⟩ | ⟨ha1, ha2⟩)
        · exact hc.2 e ha2 ha (I.down.ahead T.fine j o hj' hr.2.2 e ha1)
        · have hDe := hc.1 e ha2 ha
          exact hr.2.1 (I.down.ahead' T.fine hDe (by have := I.lt e hDe; simp; omega) ha1))
      have hgo : ∃ st3, opGo E R cx o.op { stAt tr s' j with hp := ⟨(stAt tr s' p).hp.b, (stAt tr s' m).hp.next⟩ } = some (.val v st3) := by
        obtain ⟨_, g3⟩ := look_go hk hst2
        exact ⟨_, g3 { stAt tr s' j with hp := ⟨(stAt tr s' p).hp.b, (stAt tr s' m).hp.next⟩ } rfl rfl⟩
      obtain ⟨st3, hst3⟩ := hgo
      have H := I.whole T hp hc
      have hsees' : Sees φ (stAt tr s' j).tm a o.op.operands := fun x hx v hv => (hsees x hx v hv).mono (Phi.cut_le φ _)
      obtain ⟨x, hrun, hv⟩ := look_done (P := P) hE (st := { stAt tr s' j with hp := ⟨(stAt tr s' p).hp.b, (stAt tr s' m).hp.next⟩ }) H (a := a) hk hsees' hst3
      have hnd : ∀ c, o.op ≠ .defer c := fun c e => by rw [e] at hk; cases hk
      rw [← Oper.semAt_eq b.roundOf a.eval o hnd] at hrun
      exact ⟨φ, _, cs, w, .one (step_value hr.1 hwm hrun), I.still T hm hr hj (by rw [hk]; simp) h1 (by rw [e1, g1]) (VRel.below hv hbel) ⟨fun _ _ => rfl, Nat.le_refl _, rfl, rfl, rfl⟩⟩
    | lay =>
      obtain ⟨x, g1, g2⟩ := lay_go hk hq
      obtain ⟨φ', y, w', hst, hv, hH, hX⟩ := alone (by rw [hk]; simp) (by rw [hk]; simp) _ (g2 { stAt tr s' j with hp := deadHeap (stAt tr s' j).hp.next } rfl rfl)
      obtain ⟨φ1, I1⟩ := I.lays T hm hd0 hr hj (by rw [hk]; simp) h1 (by rw [e1, g1]; rfl) hv hH hX
      exact ⟨φ1, _, cs, w', hst, I1⟩
    | act =>
      obtain ⟨V1, V2, V3, V4⟩ := I.view j (by omega) (cut_ready T I.lt hm I.down hr hk)
      have hop := op_ok hE hR (ops := ops) (i := j) (rest := rest) (k := k) (hx0.mono V2.le) hsees V3 V4 V1 hq hr.1 hwm
      obtain ⟨htm, φ', ds, cs', w', x, hst, hv, hd, hu, hH, hX⟩ := hop
      obtain ⟨φ1, I1⟩ := I.acts (ds := ds) (cs1 := cs') (y := x) T hm H0 hr hj hk h1 hv (by rw [e2]; exact hd) (by rw [e3]; exact hu) (by rw [e1]; exact hH) (by rw [e1]; exact hX)
      exact ⟨φ1, _, cs', w', hst, I1⟩
end
end Go.Av

/- Regions that draw their order: however it is drawn. -/
namespace Go.Av
section
variable {P : Program} {E : Env} {R : Rec} {cx : Cx} {ops : Array Oper} {tr : List Tr} {s' : St} {m : Nat} {cs₀ cs cs1 : List Frame} {φ φ0 φ1 : Phi} {w w0 : World} {a : Act} {D : Nat → Prop} {b : Frame}

theorem go_acc (ops : Array Oper) : ∀ (fuel t : Nat) (listed : Array Bool) (acc : List Nat), Region.linearise.go .any ops fuel t listed acc = acc.reverse ++ Region.linearise.go .any ops fuel t listed []
  | 0, _, _, acc => by simp [Region.linearise.go]
  | fuel + 1, t, listed, acc => by
    unfold Region.linearise.go
    simp only
    split
    · rename_i i _
      rw [go_acc ops fuel _ _ (i :: acc), go_acc ops fuel _ _ [i]]
      simp
    · simp
/-- The operations that are ready. -/
def readies (ops : Array Oper) (listed : Array Bool) : List Nat := (List.range ops.size).filter fun i => !listed.getD i true && ((ops[i]?).map (·.after.all fun e => !Region.binds .any e || listed.getD e.on false)).getD false
theorem go_eq (ops : Array Oper) (fuel t : Nat) (listed : Array Bool) : Region.linearise.go .any ops (fuel + 1) t listed [] = match (readies ops listed)[t % (readies ops listed).length]? with
    | some i => Region.linearise.go .any ops fuel (t / (readies ops listed).length) (listed.setIfInBounds i true) [i]
    | none => [] := rfl
theorem go_step (ops : Array Oper) (fuel t : Nat) (listed : Array Bool) :
    (readies ops listed = [] ∧ Region.linearise.go .any ops (fuel + 1) t listed [] = []) ∨ (∃ i, i ∈ readies ops listed ∧ Region.linearise.go .any ops (fuel + 1) t listed [] = i :: Region.linearise.go .any ops fuel (t / (readies ops listed).length) (listed.setIfInBounds i true) []) := by
  have h := go_eq ops fuel t listed
  cases hi : (readies ops listed)[t % (readies ops listed).length]? with
  | some i =>
    rw [hi] at h
    refine .inr ⟨i, List.mem_of_getElem? hi, ?_⟩
    rw [h]
    simp only
    rw [go_acc]
    rfl
  | none =>
    rw [hi] at h
    refine .inl ⟨?_, h⟩
    cases hr : readies ops listed with
    | nil => rfl
    | cons x xs =>
      exfalso
      rw [List.getElem?_eq_none_iff] at hi
      have : t % (readies ops listed).length < (readies ops listed).length := Nat.mod_lt _ (by rw [hr]; simp)
      omega

/-- What is listed is what is done. -/
structure Listed (ops : Array Oper) (listed : Array Bool) (D : Nat → Prop) : Prop where
  size : listed.size = ops.size
  iff : ∀ i, i < ops.size → (listed[i]? = some true ↔ D i)
theorem Listed.get {listed : Array Bool} (L : Listed ops listed D) {i : Nat} (hi : i < ops.size) (d : Bool) : listed.getD i d = true ↔ D i := by
  rw [← L.iff i hi, Array.getD_eq_getD_getElem?]
  have : i < listed.size := by rw [L.size]; exact hi
  simp [this]
theorem Listed.ready {listed : Array Bool} (L : Listed ops listed D) (hf : fine E ops.toList = true) {i : Nat} : i ∈ readies ops listed ↔ ∃ o, ReadyAt ops D i o := by
  unfold readies
  rw [List.mem_filter, List.mem_range]
  have back : ∀ {o : Oper}, ops[i]? = some o → ∀ e ∈ o.after.toList, Region.binds .any e = true → e.on < ops.size := fun {o} ho e he hb => by
    have h1 := fine_back hf (j := i) (y := o) (by simpa using ho) e he hb
    have := (Array.getElem?_eq_some_iff.1 ho).1
    omega
  constructor
  · rintro ⟨hi, h⟩
    have ho : ops[i]? = some ops[i] := by simp [hi]
    refine ⟨ops[i], ho, fun hD => ?_, fun e he hb => ?_⟩
    · rw [(L.get hi true).2 hD] at h; simp at h
    · rw [ho] at h
      simp only [Option.map_some, Option.getD_some, Bool.and_eq_true, Array.all_eq_true'] at h
      have := h.2 e (by simpa using he)
      rw [hb] at this
      exact (L.get (back ho e he hb) false).1 (by simpa using this)
  · rintro ⟨o, ho, hD, hed⟩
    have hi := (Array.getElem?_eq_some_iff.1 ho).1
    refine ⟨hi, ?_⟩
    have : listed.getD i true = false := by
      cases h : listed.getD i true with
      | false => rfl
      | true => exact absurd ((L.get hi true).1 h) hD
    rw [this, ho]
    simp only [Option.map_some, Option.getD_some, Bool.and_eq_true, Array.all_eq_true', Bool.not_false, true_and]
    intro e he
    cases hb : Region.binds .any e with
    | false => rfl
    | true => simp only [Bool.not_true, Bool.false_or]; exact (L.get (back ho e (by simpa using he) hb) false).2 (hed e (by simpa using he) hb)
/-- Nobody is ready: all are done. -/
theorem Listed.full {listed : Array Bool} (L : Listed ops listed D) (hf : fine E ops.toList = true) (h : readies ops listed = []) : ∀ i, i < ops.size → D i := by
  intro i
  induction i using Nat.strongRecOn with
  | _ i ih =>
    intro hi
    refine Classical.byContradiction fun hD => ?_
    have ho : ops[i]? = some ops[i] := by simp [hi]
    have : i ∈ readies ops listed := (L.ready hf).2 ⟨ops[i], ho, hD, fun e he hb => by
      have h1 := fine_back hf (j := i) (y := ops[i]) (by simp) e he hb
      exact ih e.on h1 (by omega)⟩
    rw [h] at this; simp at this
theorem Listed.next {listed : Array Bool} (L : Listed ops listed D) {j : Nat} (hj : j < ops.size) : Listed ops (listed.setIfInBounds j true) (fun k => D k ∨ k = j) := by
  refine ⟨by simp [L.size], fun i hi => ?_⟩
  rw [Array.getElem?_setIfInBounds]
  by_cases e : j = i
  · subst e; simp [L.size, hj]
  · rw [if_neg e, L.iff i hi]
    exact ⟨.inl, fun h => h.resolve_right fun h => e h.symm⟩
/-- How many are left. -/
def left (ops : Array Oper) (listed : Array Bool) : Nat := ((List.range ops.size).filter fun i => !(listed.getD i true)).length
theorem left_next {listed : Array Bool} (hz : listed.size = ops.size) {j : Nat} (hj : j < ops.size) (hl : listed.getD j true = false) : left ops (listed.setIfInBounds j true) < left ops listed := by
  unfold left
  have : ((List.range ops.size).filter fun i => !((listed.setIfInBounds j true).getD i true)) = ((List.range ops.size).filter fun i => !(listed.getD i true)).filter fun i => i != j := by
    rw [List.filter_filter]
    refine List.filter_congr fun i hi => ?_
    rw [List.mem_range] at hi
    rw [Array.getD_eq_getD_getElem?, Array.getD_eq_getD_getElem?, Array.getElem?_setIfInBounds]
    by_cases e : j = i
    · subst e; simp [hz, hj]
    · have : (i != j) = true := by simp; exact fun h => e h.symm
      rw [if_neg e, this, Bool.true_and]
  rw [this, List.length_filter_lt_length_iff_exists]
  exact ⟨j, List.mem_filter.2 ⟨List.mem_range.2 hj, by simp [hl]⟩, by simp⟩
theorem left_zero {listed : Array Bool} (L : Listed ops listed D) (h : left ops listed = 0) : ∀ i, i < ops.size → D i := by
  intro i hi
  unfold left at h
  have h := List.eq_nil_of_length_eq_zero h
  rw [List.filter_eq_nil_iff] at h
  have := h i (List.mem_range.2 hi)
  exact (L.get hi true).1 (by simpa using this)

/-- How the trace ends. -/
def Ends (E : Env) (R : Rec) (cx : Cx) (ops : Array Oper) (tr : List Tr) (s' : St) (m : Nat) (ex : Ex) (s1 : St) : Prop :=
  (ex = .normal ∧ m = ops.size ∧ s1 = stAt tr s' m) ∨
  (∃ c o, ex = .panic c ∧ m < ops.size ∧ ops[m]? = some o ∧ kindOf E o.op = .act ∧ (∃ s2, oneOp E R cx ops.toList o (stAt tr s' m) = some (.pan c s2) ∧ s1 = { s2 with tm := s2.tm.dels (dsts ops.toList) }) ∧ ∀ i, m < i → i < ops.size → ahead (aheads ops.toList []) m i = true)

theorem draw_end (I : Inv P E cx ops tr s' m b.kind cs₀ φ0 w0 D φ a cs w) {ex : Ex} {s1 : St} (hE : Ends E R cx ops tr s' m ex s1) (hall : ∀ i, i < ops.size → D i) (k : List Item) :
    After P E φ0 (stAt tr s' 0).hp w0 cx b cs₀ (lone (b.atR a (.inRegion ops [] :: k)) cs w) k ex s1 := by
  rcases hE with ⟨rfl, rfl, rfl⟩ | ⟨c, o, rfl, hlt, _⟩
  · have hc : CutAt E ops D ops.size := by
      refine ⟨fun k hk _ => hall k hk, fun k hk ha => ?_⟩
      obtain ⟨o, ho, _⟩ := ha
      have := (Array.getElem?_eq_some_iff.1 ho).1
      omega
    obtain ⟨V1, V2, V3, V4⟩ := I.view ops.size (Nat.le_refl _) hc
    refine ⟨_, a, cs, w, .one stepR_region_end, .inr ⟨I.size, fun t v hv => I.slot t ops.size (Nat.le_refl _) (fun k o hk _ => ?_) v hv⟩, V3, V4, V1, V2⟩
    have := (Array.getElem?_eq_some_iff.1 hk).1
    exact ⟨fun _ => this, fun _ => hall k this⟩
  · exact absurd (I.lt m (hall m hlt)) (by omega)
theorem draw_all (hE : E.Ok P) (hR : AllOk P E R) (hx0 : XRel φ0 cx b) (T : TraceOk E R cx ops tr s' m) (hS : Stab E R cx ops tr s' m) (hm : m ≤ ops.size) (H0 : HRel E φ0 (stAt tr s' 0).hp w0) {ex : Ex} {s1 : St} (he : Ends E R cx ops tr s' m ex s1) (k : List Item) :
    ∀ (fuel t : Nat) (listed : Array Bool) (D : Nat → Prop) (φ : Phi) (a : Act) (cs : List Frame) (w : World), Listed ops listed D → left ops listed ≤ fuel → Inv P E cx ops tr s' m b.kind cs₀ φ0 w0 D φ a cs w →
      After P E φ0 (stAt tr s' 0).hp w0 cx b cs₀ (lone (b.atR a (.inRegion ops (Region.linearise.go .any ops fuel t listed []) :: k)) cs w) k ex s1 := by
  intro fuel
  induction fuel with
  | zero =>
    intro t listed D φ a cs w L hl I
    exact draw_end I he (left_zero L (by omega)) k
  | succ fuel ih =>
    intro t listed D φ a cs w L hl I
    rcases go_step ops fuel t listed with ⟨h1, h2⟩ | ⟨i, h1, h2⟩
    · rw [h2]
      exact draw_end I he (L.full T.fine h1) k
    · rw [h2]
      obtain ⟨o, hr⟩ := (L.ready T.fine).1 h1
      have hi := (Array.getElem?_eq_some_iff.1 hr.1).1
      by_cases him : i < m
      · obtain ⟨φ1, a1, cs1, w1, hst, I1⟩ := draw_step hE hR hx0 I T hS hm H0 hr him (Region.linearise.go .any ops fuel (t / (readies ops listed).length) (listed.setIfInBounds i true) []) k
        have hl1 : left ops (listed.setIfInBounds i true) < left ops listed := left_next L.size hi (by
          cases h : listed.getD i true with
          | false => rfl
          | true => exact absurd ((L.get hi true).1 h) hr.2.1)
        exact After.of_steps H0 (.refl ..) hst (ih _ _ _ φ1 a1 cs1 w1 (L.next hi) (by omega) I1)
      · rcases he with ⟨rfl, hme, rfl⟩ | ⟨c, o', rfl, hlt, ho', hk, ⟨s2', hone, rfl⟩, hahead⟩
        · omega
        · by_cases hip : i = m
          · subst hip
            rw [hr.1] at ho'; cases ho'
            have hc := cut_ready T I.lt hm I.down hr hk
            obtain ⟨V1, V2, V3, V4⟩ := I.view i (Nat.le_refl _) hc
            simp only [oneOp, Option.bind_eq_bind, Option.bind_eq_some_iff] at hone
            obtain ⟨c1, hc1, hone⟩ := hone
            have hwm := I.wanted T hm hr (Nat.le_refl _) hc1
            cases c1 with
            | false => simp at hone
            | true =>
              simp only [if_true, Option.bind_eq_some_iff] at hone
              obtain ⟨q, hq, hone⟩ := hone
              cases q with
              | val v s2 => simp at hone
              | pan pc s2 =>
                simp only [Option.some.injEq, OR.pan.injEq] at hone
                obtain ⟨rfl, rfl⟩ := hone
                have hop := op_ok hE hR (ops := ops) (i := i) (rest := Region.linearise.go .any ops fuel (t / (readies ops listed).length) (listed.setIfInBounds i true) []) (k := k) (hx0.mono V2.le) (I.sees T hm hr (Nat.le_refl _)) V3 V4 V1 hq hr.1 hwm
                obtain ⟨htm, φ', ds, cs', w', todo, l, hch, hst, hd, hu, hH, hX⟩ := hop
                refine ⟨φ', _, cs', w', ⟨todo, l, hch, hst⟩, .inr ⟨I.size, fun t v hv => ?_⟩, hd, hu, hH, Ext.trans H0 V2 hX⟩
                obtain ⟨hn, hv⟩ := Av.T.get_dels _ _ _ _ hv
                rw [htm] at hv
                obtain ⟨h3, h4⟩ := I.slot t i (Nat.le_refl _) (fun k o'' hk' hd' => (hn (List.mem_filterMap.2 ⟨o'', List.mem_of_getElem? (i := k) (by simpa using hk'), hd'⟩)).elim) v hv
                exact ⟨h3, h4.mono hX.le⟩
          · exfalso
            have h3 := I.down.ahead T.fine i o (by simpa using hr.1) hr.2.2 m (hahead i (by omega) hi)
            have := I.lt m h3
            omega

theorem draw_ok (hE : E.Ok P) (hR : AllOk P E R) : DrawOk P E R := by
  intro cx b cs₀ ops s ex s1 h φ a cs w k t hx hr
  simp only [drawV, Option.bind_eq_bind, Option.bind_eq_some_iff] at h
  obtain ⟨⟨tr, ex', s'⟩, hd, h⟩ := h
  simp only at h
  split at h
  · rename_i hcond
    simp only [Option.some.injEq, Prod.mk.injEq] at h
    obtain ⟨rfl, rfl⟩ := h
    obtain ⟨hfine, hstab, hlast⟩ := hcond
    obtain ⟨h0, hlen, hops, hends⟩ := drawRun_spec _ _ _ _ _ hd
    have hops' : ∀ (k : Nat) (x : Tr), tr[k]? = some x → ops[k]? = some x.o := fun k x hx => by simpa using hops k x hx
    have hget : ∀ k, k < tr.length → ∃ x, tr[k]? = some x ∧ stAt tr s' k = x.s := fun k hk => ⟨tr[k], List.getElem?_eq_getElem hk, by simp [stAt, hk]⟩
    -- how many have ended with a value
    have key : ∃ m, m ≤ tr.length ∧ m ≤ ops.size ∧ (∀ k x, k < m → tr[k]? = some x → DidOne E R cx ops.toList tr s' k x) ∧ Ends E R cx ops tr s' m ex' s' ∧ (m = tr.length ∨ (m + 1 = tr.length ∧ ActAt E ops m)) := by
      simp only [Array.length_toList] at hlen
      rcases hends with ⟨rfl, hl, hdid⟩ | ⟨c, p, y, rfl, hl, hy, hk, hone, hdid⟩
      · refine ⟨tr.length, Nat.le_refl _, hlen, fun k x _ hx => hdid k x hx, .inl ⟨rfl, by simpa using hl, ?_⟩, .inl rfl⟩
        simp [stAt]
      · have hst : stAt tr s' p = y.s := by simp [stAt, hy]
        refine ⟨p, by omega, by omega, hdid, .inr ⟨c, y.o, rfl, by omega, hops' p y hy, hk, by rw [hst]; exact hone, fun i h1 h2 => ?_⟩, .inr ⟨hl.symm, y.o, hops' p y hy, hk⟩⟩
        rcases hlast with h3 | h3
        · simp at h3; omega
        · have h4 := List.all_eq_true.1 h3 i (List.mem_range.2 (by simpa using h2))
          simp only [Bool.or_eq_true, decide_eq_true_eq] at h4
          rcases h4 with h4 | h4
          · omega
          · rw [hl] at h4; simpa using h4
    obtain ⟨m, hm1, hm2, hdid, hEnds, hmt⟩ := key
    have T : TraceOk E R cx ops tr s' m := ⟨hfine, fun k hk => by
      obtain ⟨x, hx, hs⟩ := hget k (by omega)
      obtain ⟨d1, d2, d3⟩ := hdid k x hk hx
      exact ⟨x.o, x.v, hops' k x hx, by rw [hs]; exact d1, d2, by rw [hs]; exact d3⟩⟩
    have hS : Stab E R cx ops tr s' m := by
      intro j o v hj ho hkd hw h1 p hp hpa hnone
      obtain ⟨x, hx, hs⟩ := hget j (by omega)
      have hxo := hops' j x hx
      rw [ho] at hxo; cases hxo
      have hxv : v = x.v := by
        obtain ⟨d1, _, _⟩ := hdid j x hj hx
        rw [hs, d1] at h1
        simp only [Option.some.injEq, OR.val.injEq] at h1
        exact h1.1.symm
      subst hxv
      have hst := List.all_eq_true.1 hstab (x, j) (mem_zip hx)
      rw [hs] at hw
      simp only [hkd, hw, ne_eq, not_true_eq_false, decide_false, Bool.false_or] at hst
      unfold stables at hst
      have h2 := List.all_eq_true.1 hst p (List.mem_range.2 (by omega))
      simp only [Bool.or_eq_true, Bool.and_eq_true, decide_eq_true_eq, Bool.not_eq_true'] at h2
      have hat : ∀ e, (match ops.toList[e]? with | some o => decide (kindOf E o.op = .act) | none => false) = true → ActAt E ops e := by
        intro e he
        cases h3 : ops.toList[e]? with
        | none => rw [h3] at he; cases he
        | some o => rw [h3] at he; exact ⟨o, by simpa using h3, by simpa using he⟩
      rcases h2 with (⟨h2, h3⟩ | h2) | h2
      · exfalso
        have hap : ActAt E ops p := by
          rcases hpa with h4 | h4
          · exact h4
          · rcases hmt with h5 | ⟨h5, h6⟩
            · omega
            · rw [h4]; exact h6
        obtain ⟨o', ho', hk'⟩ := hap
        have : ops.toList[p]? = some o' := by simpa using ho'
        rw [this] at h3
        simp [hk'] at h3
      · exfalso
        obtain ⟨e, _, he⟩ := List.any_eq_true.1 h2
        simp only [Bool.or_eq_true, Bool.and_eq_true, decide_eq_true_eq] at he
        exact hnone e (hat e he.1) he.2
      · have h2 : stableAt E R cx x (stAt tr s' p).hp = true := by
          unfold stAt
          cases hq : tr[p]? with
          | some y => rw [hq] at h2; exact h2
          | none => rw [hq] at h2; exact h2
        unfold stableAt opStep at h2
        rw [hs]
        split at h2
        · rename_i v' st' h3
          rw [eqAV_eq _ _ _ h2] at h3
          exact ⟨st', h3⟩
        · cases h2
    have hr0 : SRel E φ cx b.kind cs₀ (stAt tr s' 0) a cs w := by rw [h0]; exact hr
    have I := inv_start (P := P) T hr0
    have L : Listed ops (Array.replicate ops.size false) (fun _ => False) := ⟨by simp, fun i hi => by simp [hi]⟩
    have := draw_all hE hR hx T hS hm2 hr0.hp hEnds k ops.size t (Array.replicate ops.size false) (fun _ => False) φ a cs w L (by
      unfold left
      exact Nat.le_trans (List.length_filter_le _ _) (by simp)) I
    rw [h0] at this
    exact this
  · cases h
/-- Whatever the evaluator answers, the machine comes to. -/
theorem aev_ok (hE : E.Ok P) : ∀ n, AllOk P E (aev E n)
  | 0 => rec0_ok
  | n + 1 => step_ok hE (aev_ok hE n) (draw_ok hE (aev_ok hE n))
end
end Go.Av
