/- The evaluator's operations and code beside the machine: calls, deferred calls, ranges over functions. Conditions: as in the first part. -/
import Derived.Test.YtbjagcfbjfgkmaaGreatAv1
import Derived.Laws.MakeOwn
import Derived.Laws.BytesString
import Derived.Defers
/- The operations on memory, on both sides. -/
namespace Go.Av
section
variable {P : Program} {E : Env} {φ : Phi} {h : Heap} {w : World}

theorem length_zeros (z : List AV) (n : Nat) : (zeros z n).length = n * z.length := by
  induction n with
  | zero => simp [zeros]
  | succ n ih => simp [zeros, ih, Nat.add_mul, Nat.add_comm]
theorem get_zeros (z : List AV) (n i : Nat) (hi : i < n * z.length) : (zeros z n)[i]? = z[i % z.length]? := by
  induction n generalizing i with
  | zero => omega
  | succ n ih =>
    simp only [zeros]
    by_cases h : i < z.length
    · rw [List.getElem?_append_left h, Nat.mod_eq_of_lt h]
    · rw [List.getElem?_append_right (by omega), ih _ (by rw [Nat.add_mul] at hi; omega)]
      rw [← Nat.mod_eq_sub_mod (by omega)]
theorem made_rel {z : List AV} {zs : Array Value} (hz : VRels φ z zs.toList) (n : Nat) : VRels φ (zeros z n) ((Array.range (n * zs.size)).map (zs[· % zs.size]!)).toList := by
  have hl := hz.length
  simp only [Array.length_toList] at hl
  refine .of_get (by simp [length_zeros, hl]) fun i a v ha hv => ?_
  have hi : i < n * z.length := by rw [← length_zeros]; exact (List.getElem?_eq_some_iff.1 ha).1
  rw [get_zeros z n i hi] at ha
  obtain ⟨x, hx, hr⟩ := hz.get ha
  have hv' : ((Array.range (n * zs.size)).map (zs[· % zs.size]!))[i]? = some v := by rw [Array.getElem?_toList] at hv; exact hv
  rw [Array.getElem?_map, Array.getElem?_range, if_pos (by rw [← hl]; exact hi)] at hv'
  simp only [Option.map_some, Option.some.injEq] at hv'
  rw [← hl] at hv'
  have hx' : zs[i % z.length]? = some x := by simpa using hx
  have hlt := (Array.getElem?_eq_some_iff.1 hx').1
  rw [getElem!_pos zs _ hlt] at hv'
  rw [Array.getElem?_eq_getElem hlt] at hx'
  cases hx'
  rw [← hv']
  exact hr

/-- A new row that nobody has seen. -/
theorem fresh_row (H : HRel E φ h w) {e : TypeId} {te : ATy} (ht : E.t e = some te) {vs : List AV} {xs : Array Value} (hv : VRels φ vs xs.toList) {h' : Heap} (hs : Av.newRow h e vs = some h') :
    HRel E (φ.with h.next ⟨w.heap.size, 0, xs.size⟩) h' (w.alloc (.cells xs e)) ∧ Ext φ h w (φ.with h.next ⟨w.heap.size, 0, xs.size⟩) h' (w.alloc (.cells xs e)) := by
  have := newRow_rel H ht hv [] (0, 0) (by intro j _ hh; omega) hs
  simpa using this
theorem fresh_ptr {n : Nat} : VRel (φ.with h.next ⟨w.heap.size, 0, n⟩) (.ptr (some (h.next, 0))) (.pointer (some ⟨w.heap.size, 0, none⟩)) := by
  simp only [VRel]; exact ⟨⟨w.heap.size, 0, n⟩, by simp [Phi.with], by simp⟩
theorem alloc_rel (hE : E.Ok P) (H : HRel E φ h w) {t : TypeId} {ty : ATy} (ht : E.t t = some ty) {z : AV} (hz : ty.zero = some z) {h' : Heap} (hs : Av.newRow h t z.cells = some h') :
    Gives P E φ h w (Instr.alloc t true (.tuple #[])) (.ptr (some (h.next, 0))) h' := by
  obtain ⟨zv, hr, ho⟩ := run_zero hE ht hz w
  have hv := (ofV_rel (φ := φ) 9 zv z ho).cells'
  have hf := fresh_row H ht hv hs
  exact ⟨_, _, _, by simp [Instr.alloc, hr, newVar, Go.newRow], fresh_ptr, hf.1, hf.2⟩
theorem box_rel (H : HRel E φ h w) {t : TypeId} {ty : ATy} (ht : E.t t = some ty) {v : AV} {x : Value} (hv : VRel φ v x) {h' : Heap} (hs : Av.newRow h t v.cells = some h') :
    Gives P E φ h w (Instr.box t x) (.ptr (some (h.next, 0))) h' := by
  have hf := fresh_row H ht hv.cells' hs
  exact ⟨_, _, _, by simp [Instr.box, newVar, Go.newRow], fresh_ptr, hf.1, hf.2⟩
theorem fresh_slice {n l : Nat} {c : Nat} (hlc : l ≤ c) : VRel (φ.with h.next ⟨w.heap.size, 0, n⟩) (.slice (some (h.next, 0)) l (.known c)) (.slice (some ⟨w.heap.size, 0, none⟩) l c) := by
  simp only [VRel, SlRel]
  exact ⟨⟨w.heap.size, 0, n⟩, 0, by simp [Phi.with], rfl, hlc, .inr rfl⟩
theorem buildSlice_rel (hE : E.Ok P) {st : St} (H : HRel E φ st.hp w) {t : TypeId} {len : Nat} {ps : List (Nat × AV)} {qs : Array (Nat × Value)} (hp : PRel φ ps qs.toList) {ty : ATy} (hty : E.t t = some ty) {e : TypeId} (hd : ty.d = .slice e)
    {te : ATy} (hte : E.t e = some te) (hbig : len * te.size ≤ 16777216) {zs cs : List AV}
    (hzs : (if len * te.size = 0 then some [] else (te.zero.bind fun z => if z.cells.length = te.size then some (zeros z.cells len) else none)) = some zs)
    (hf : fillP (fun i => some (i * te.size, te.size)) ps zs = some cs) {h' : Heap} (hs : Av.newRow st.hp e cs = some h') :
    Gives P E φ st.hp w (Instr.buildSlice t len qs) (.slice (some (st.hp.next, 0)) len (.known len)) h' := by
  have hu := run_under hE hty (P := P)
  rw [hd] at hu
  have hnb : ¬ (len * te.size > 2 ^ 24) := by omega
  by_cases h0 : len * te.size = 0
  · rw [if_pos h0] at hzs
    cases hzs
    obtain ⟨ys, hy1, hy2⟩ := fillP_rel (xs := #[]) hp .nil hf
    have hfr := fresh_row H hte hy2 hs
    refine ⟨_, _, _, ?_, fresh_slice (Nat.le_refl len), hfr.1, hfr.2⟩
    simp [Instr.buildSlice, hu, run_size hE hte, h0, Array.range_zero', hy1, Go.newRow]
  · rw [if_neg h0] at hzs
    simp only [Option.bind_eq_some_iff] at hzs
    obtain ⟨z, hz, hzs⟩ := hzs
    split at hzs
    · rename_i hl
      cases hzs
      obtain ⟨zv, hr, ho⟩ := run_zero hE hte hz w (P := P)
      have hv := (ofV_rel (φ := φ) 9 zv z ho).cells'
      have hsz : zv.cells.size = te.size := by rw [← hl, hv.length]; simp
      obtain ⟨ys, hy1, hy2⟩ := fillP_rel hp (made_rel hv len) hf
      have hfr := fresh_row H hte hy2 hs
      refine ⟨_, _, _, ?_, fresh_slice (Nat.le_refl len), hfr.1, hfr.2⟩
      rw [hsz] at hy1
      have hnb' : ¬ (16777216 < len * te.size) := by omega
      simp [Instr.buildSlice, hu, run_size hE hte, h0, hnb', hr, hsz, hy1, Go.newRow]
    · cases hzs
theorem makeSlice_rel (hE : E.Ok P) {st : St} (H : HRel E φ st.hp w) {t : TypeId} {ty : ATy} (hty : E.t t = some ty) {e : TypeId} (hd : ty.d = .slice e) {te : ATy} (hte : E.t e = some te) {z : AV} (hz : te.zero = some z) {l c : Nat} (hlc : l ≤ c)
    (hfit : fits te c = true) {h' : Heap} (hs : Av.newRow st.hp e (zeros z.cells c) = some h') :
    Gives P E φ st.hp w (Instr.makeSlice t (.int .i64 (.ofNat l)) (.int .i64 (.ofNat c))) (.slice (some (st.hp.next, 0)) l (.known c)) h' := by
  obtain ⟨hb, h63, _, z', hz', hzl⟩ := fits_spec hfit
  rw [hz] at hz'
  cases hz'
  obtain ⟨hu, i, hi, hsz, hby, _, hzi, _⟩ := hE.ty t ty hty
  obtain ⟨hu', i', hi', hsz', hby', _, hzi', _⟩ := hE.ty e te hte
  rw [hd] at hu
  obtain ⟨zv, hzv, ho⟩ := hzi' z hz
  have hv := (ofV_rel (φ := φ) 9 zv z ho).cells'
  have hzs : zv.cells.size = te.size := by rw [← hzl, hv.length]; simp
  have hr := run_make (P := P) w t e i' zv hu hi' hzv .i64 .i64 (Int.ofNat l) (Int.ofNat c) (Int.natCast_nonneg _) (by simpa using hlc)
    (by rw [hby']; have : (te.bytes : Int) * Int.ofNat c = ((c * te.bytes : Nat) : Int) := by rw [Nat.mul_comm]; simp
        rw [this]; omega) (by show (c : Int) ≤ 9223372036854775807; omega)
  have hm := made_rel hv c
  have e1 : madeCells zv.cells (c * i'.size) = (Array.range (c * zv.cells.size)).map (zv.cells[· % zv.cells.size]!) := by unfold madeCells; rw [hsz', hzs]
  have hfr := fresh_row H hte hm hs
  refine ⟨_, _, _, ?_, fresh_slice hlc, hfr.1, hfr.2⟩
  rw [hr]
  simp only [Int.ofNat_eq_natCast, Int.toNat_natCast, e1]
end
end Go.Av

/- The operations on memory, on both sides: the second part. -/
namespace Go.Av
section
variable {P : Program} {E : Env} {φ : Phi} {h : Heap} {w : World}

/-! ### Texts gone through -/
theorem range_rel (hE : E.Ok P) (H : HRel E φ h w) {t : TypeId} {ty : ATy} (hty : E.t t = some ty) (hd : ty.d = .string) {s : List Nat} {x : Value} (hx : VRel φ (.str s) x) :
    Gives P E φ h w (Instr.range t x) (.ptr (some (h.next, 0))) (newBlk h (.siter s 0)) := by
  have hu := run_under hE hty (P := P)
  rw [hd] at hu
  simp only [VRel] at hx
  obtain ⟨b, rfl, rfl⟩ := hx
  have := H.push (.siter (b.data.toList.map UInt8.toNat) 0) (.stringIter b 0) ⟨w.heap.size, 0, 0⟩ rfl ⟨b, rfl, by simp, rfl⟩
  refine ⟨_, _, _, ?_, fresh_ptr, this.1, this.2⟩
  simp [Instr.range, hu]
theorem decL_rel (b : ByteArray) (pos : Nat) (hp : pos < b.size) : decL ((b.data.toList.drop pos).map UInt8.toNat) = Utf8.decode b pos := by
  have hat : ∀ k, ((b.data.toList.drop pos).map UInt8.toNat).getD k 0 = if pos + k < b.size then (b.get! (pos + k)).toNat else 0 := by
    intro k
    have hs : b.size = b.data.size := rfl
    simp only [List.getD_eq_getElem?_getD, List.getElem?_map, List.getElem?_drop]
    by_cases hk : pos + k < b.size
    · rw [if_pos hk]
      have hk' : pos + k < b.data.toList.length := by rw [Array.length_toList]; exact hk
      rw [List.getElem?_eq_getElem hk']
      simp only [Option.map_some, Option.getD_some, Array.getElem_toList]
      congr 1
      have : b.get! (pos + k) = b.data[pos + k]! := rfl
      rw [this, getElem!_pos b.data _ (by rw [← hs]; exact hk)]
    · rw [if_neg hk, List.getElem?_eq_none (by simp; omega)]
      rfl
  have hlen : ((b.data.toList.drop pos).map UInt8.toNat).length = b.size - pos := by simp
  have hc : ∀ k, (decide (k < ((b.data.toList.drop pos).map UInt8.toNat).length) && ((b.data.toList.drop pos).map UInt8.toNat).getD k 0 / 64 == 2) = (decide (pos + k < b.size) && (b.get! (pos + k)).toNat / 64 == 2) := by
    intro k
    rw [hlen, hat]
    by_cases hk : pos + k < b.size
    · rw [if_pos hk]
      simp only [show k < b.size - pos from by omega, hk]
    · rw [if_neg hk]
      simp only [show ¬ k < b.size - pos from by omega, hk]
      rfl
  have hz : ((b.data.toList.drop pos).map UInt8.toNat).getD 0 0 = (b.get! (pos + 0)).toNat := by rw [hat, if_pos (by omega)]
  have hv : ∀ k, (decide (pos + k < b.size) && (b.get! (pos + k)).toNat / 64 == 2) = true → ((b.data.toList.drop pos).map UInt8.toNat).getD k 0 = (b.get! (pos + k)).toNat := by
    intro k hk
    simp only [Bool.and_eq_true, decide_eq_true_eq] at hk
    rw [hat, if_pos hk.1]
  unfold decL Utf8.decode
  simp only [hc, hz]
  split
  · rfl
  · split
    · rename_i h1
      simp only [Bool.and_eq_true] at h1
      rw [hv 1 (by simpa using h1.2)]
    · split
      · rename_i h1
        simp only [Bool.and_eq_true] at h1
        rw [hv 1 (by simpa using h1.1.2), hv 2 (by simpa using h1.2)]
      · split
        · rename_i h1
          simp only [Bool.and_eq_true] at h1
          rw [hv 1 (by simpa using h1.1.1.2), hv 2 (by simpa using h1.1.2), hv 3 (by simpa using h1.2)]
        · rfl
theorem next_rel {st : St} (H : HRel E φ st.hp w) {r : Nat} {x : Value} (hx : VRel φ (.ptr (some (r, 0))) x) {rest : List Nat} {pos : Nat} (hb : st.hp.b.get r = some (.siter rest pos)) (ty : TypeId) :
    (rest = [] → Gives P E φ st.hp w (Instr.next x true ty) (.tuple [.bool false]) st.hp) ∧
    (rest ≠ [] → Gives P E φ st.hp w (Instr.next x true ty) (.tuple [.bool true, .int .i64 (.ofNat pos), .int .i32 (.ofNat (decL rest).1)]) ⟨st.hp.b.set r (.siter (rest.drop (decL rest).2) (pos + (decL rest).2)), st.hp.next⟩) := by
  simp only [VRel] at hx
  obtain ⟨L, hp, rfl⟩ := hx
  have hbl := H.blk r L hp
  rw [hb] at hbl
  obtain ⟨s, hs, hrest, hL⟩ := hbl
  have hlen : rest.length = s.size - pos := by rw [← hrest]; simp
  have hcell : ∀ w' : World, w'.heap = w.heap → (getObj L.b).run P w' = .ok (.stringIter s pos) w' := by
    intro w' hw'
    simp only [getObj, Sem.run, hw', hs]
  simp only [hL, Nat.zero_add]
  refine ⟨fun h0 => ?_, fun h0 => ?_⟩
  · have hp' : ¬ pos < s.size := by rw [h0] at hlen; simp at hlen; omega
    refine Gives.same (x := .tuple #[.bool false]) H ?_ (by simp only [VRel]; exact ⟨_, rfl, .cons (by simp only [VRel]) .nil⟩)
    simp [Instr.next, hcell w rfl, hp']
  · have hp' : pos < s.size := by
      have : rest.length ≠ 0 := fun e => h0 (List.eq_nil_of_length_eq_zero e)
      omega
    have hd : decL rest = Utf8.decode s pos := by rw [← hrest]; exact decL_rel s pos hp'
    have hm : Mod st.hp r := by unfold Mod; rw [hb]; trivial
    have ht := H.turn hp hm (.siter (rest.drop (decL rest).2) (pos + (decL rest).2)) (.stringIter s (pos + (decL rest).2)) ⟨s, rfl, by rw [← List.drop_drop, List.map_drop, hrest], hL⟩
    refine ⟨φ, .tuple #[.bool true, goInt pos, .int .i32 (decL rest).1], _, ?_, ?_, ht.1, ht.2⟩
    · have hset : (setObj L.b (.stringIter s (pos + (decL rest).2))).run P w = .ok () (setW w L.b (.stringIter s (pos + (decL rest).2))) := by
        simp only [setObj, Sem.run, hs]
        rfl
      rw [hd] at hset ⊢
      simp [Instr.next, hcell w rfl, hp', hset]
    · simp only [VRel]
      exact ⟨_, rfl, .cons (by simp only [VRel]) (.cons (by simp only [VRel]; rfl) (.cons (by simp only [VRel]; rfl) .nil))⟩

/-! ### Conversions between texts and bytes -/
theorem bytesOfV_rel : ∀ {cs : List AV} {xs : List Value} {s : List Nat}, VRels φ cs xs → bytesOfV cs = some s → xs = s.map (fun n => Value.int .u8 (Int.ofNat n)) ∧ ∀ n ∈ s, n < 256
  | [], xs, s, h, hb => by
    simp only [VRels] at h; subst h
    simp only [bytesOfV, Option.some.injEq] at hb; subst hb
    exact ⟨rfl, by simp⟩
  | c :: cs, xs, s, h, hb => by
    simp only [VRels] at h
    obtain ⟨y, ys, rfl, h1, h2⟩ := h
    simp only [bytesOfV, Option.bind_eq_bind, Option.bind_eq_some_iff, Option.some.injEq] at hb
    obtain ⟨n, hn, r, hr, rfl⟩ := hb
    obtain ⟨e, hall⟩ := bytesOfV_rel h2 hr
    unfold byteOfV at hn
    split at hn
    · split at hn
      · rename_i hlt
        cases hn
        simp only [VRel] at h1
        subst h1
        exact ⟨by simp [e], by simp only [List.mem_cons]; rintro m (rfl | hm); exact hlt; exact hall m hm⟩
      · cases hn
    · cases hn
theorem push_bytes (s : List Nat) (hs : ∀ n ∈ s, n < 256) : ∀ b : ByteArray, ((s.map Int.ofNat).foldl (fun r n => r.push (UInt8.ofNat n.toNat)) b).data.toList.map UInt8.toNat = b.data.toList.map UInt8.toNat ++ s := by
  induction s with
  | nil => intro b; simp
  | cons n s ih =>
    intro b
    simp only [List.map_cons, List.foldl_cons]
    rw [ih (fun m hm => hs m (by simp [hm]))]
    have : n < 256 := hs n (by simp)
    simp [ByteArray.data_push, Nat.mod_eq_of_lt this]
theorem toString_rel (H : HRel E φ h w) {base : Option (Nat × Nat)} {n : Nat} {cap : Cap} {x : Value} (hx : VRel φ (.slice base n cap) x) {cs : List AV} (hf : firstV h 1 n (.slice base n cap) = some cs) {s : List Nat} (hb : bytesOfV cs = some s) :
    ∃ z, (Conv.bytesToString x).run P w = .ok z w ∧ VRel φ (.str s) z := by
  obtain ⟨xs, hxs, hr⟩ := firstV_rel (P := P) H hx hf (m := n) rfl (Nat.le_refl _)
  obtain ⟨rfl, hall⟩ := bytesOfV_rel hxs hb
  have hr' := hr w rfl
  simp only [VRel] at hx
  cases base with
  | none =>
    have hcs : s = [] := by
      simp only [firstV, Option.some.injEq] at hf
      subst hf
      simp only [bytesOfV, Option.some.injEq] at hb
      exact hb.symm
    subst hcs
    have : ∃ l c, x = .slice none l c := by unfold SlRel at hx; split at hx <;> simp_all
    obtain ⟨l, c, rfl⟩ := this
    exact ⟨.string .empty, rfl, by simp only [VRel]; exact ⟨_, rfl, rfl⟩⟩
  | some p =>
    have : ∃ a c, x = .slice (some a) n c := by
      unfold SlRel at hx; split at hx
      · simp_all
      · exact hx.elim
      · obtain ⟨L, _, _, rfl, _⟩ := hx; exact ⟨_, _, rfl⟩
      · obtain ⟨L, _, _, _, rfl, _⟩ := hx; exact ⟨_, _, rfl⟩
    obtain ⟨a, c, rfl⟩ := this
    simp only [Builtin.firstCells, Nat.mul_one] at hr'
    have h2 := run_bytesToString (P := P) w a n c (s.map Int.ofNat) (by rw [hr', List.map_map]; rfl)
    refine ⟨_, h2, ?_⟩
    simp only [VRel]
    exact ⟨_, rfl, by rw [push_bytes s hall]; rfl⟩
end
end Go.Av

/- The operations on memory, on both sides: the third part. -/
namespace Go.Av
section
variable {P : Program} {E : Env} {φ : Phi} {h : Heap} {w : World}

theorem toBytes_rel (H : HRel E φ h w) {e : TypeId} {te : ATy} (hte : E.t e = some te) {s : List Nat} {x : Value} (hx : VRel φ (.str s) x) {h' : Heap}
    (hs : Av.newRow h e (s.map fun c => .int .u8 (.ofNat c)) = some h') :
    ∃ b : ByteArray, x = .string b ∧ Gives P E φ h w (Conv.stringToBytes e b) (.slice (some (h.next, 0)) s.length (.room 1)) h' := by
  simp only [VRel] at hx
  obtain ⟨b, rfl, rfl⟩ := hx
  refine ⟨b, rfl, ?_⟩
  generalize hcap : (Question.appendCap b.size 0 e).cut (w.tape w.drawn (.appendCap b.size 0 e)) = cap
  have hge : b.size ≤ cap := by rw [← hcap]; simp [Question.cut]
  have hv : VRels φ ((b.data.toList.map UInt8.toNat).map fun c => .int .u8 (.ofNat c)) (b.data.toList.map fun c => Value.int .u8 c.toNat) := by
    refine .of_get (by simp) fun i a v ha hv => ?_
    simp only [List.getElem?_map, Option.map_eq_some_iff] at ha hv
    obtain ⟨k, ⟨d, hd, rfl⟩, rfl⟩ := ha
    obtain ⟨d', hd', rfl⟩ := hv
    rw [hd] at hd'
    cases hd'
    exact byte_rel d
  have hH := H.drew (w.drawn + 1)
  have hsize : b.data.size = b.size := rfl
  have hnew := newRow_rel (w := w.drew) hH hte hv (List.replicate (cap - b.size) (.int .u8 0)) (cap, cap + 1) (by
    intro j hj hh
    simp only [List.length_map, Array.length_toList, List.length_replicate, hsize] at hj
    omega) hs
  refine ⟨_, .slice (some ⟨w.heap.size, 0, none⟩) b.size cap, _, ?_, ?_, hnew.1, (Ext.drew (w.drawn + 1)).trans H hnew.2⟩
  · have hfr : ∀ (cs : Array Value), cs.size = cap → (markStringish ⟨w.heap.size, 0, none⟩).run P (w.drew.alloc (.cells cs e)) = .ok () (w.drew.alloc (.cells cs e (cap, cap + 1))) := by
      intro cs hcs
      have hg : (w.drew.alloc (.cells cs e)).heap[w.heap.size]? = some (.cells cs e (0, 0)) := heap_alloc_new w.drew _
      simp only [markStringish, Sem.run_bind, run_shape, World.shape?, hg, Result.andThen_ok, run_freeze]
      congr 1
      unfold World.freeze
      simp only [Nat.succ_ne_zero, if_false]
      unfold World.alloc
      congr 1
      apply Array.ext_getElem?
      intro j
      rw [Array.getElem?_modify, Array.getElem?_push, Array.getElem?_push]
      have hds : w.drew.heap.size = w.heap.size := rfl
      by_cases hj : w.heap.size = j
      · subst hj
        rw [if_pos rfl, if_pos hds.symm, if_pos hds.symm]
        simp [hcs]
      · rw [if_neg hj, if_neg (by omega), if_neg (by omega)]
    simp only [Conv.stringToBytes, Sem.run_bind, run_choose, Question.forced, Bool.false_eq_true, if_false, hcap, Result.andThen_ok, Go.newRow, run_newObj, Sem.run_pure]
    have hcs : (b.data.map (fun c : UInt8 => Value.int .u8 c.toNat) ++ Array.replicate (cap - b.size) (Value.int .u8 0)) = (b.data.toList.map (fun c : UInt8 => Value.int .u8 c.toNat) ++ List.replicate (cap - b.size) (Value.int .u8 0)).toArray := by
      apply Array.ext'
      simp
    have h2 := hfr (b.data.toList.map (fun c : UInt8 => Value.int .u8 c.toNat) ++ List.replicate (cap - b.size) (Value.int .u8 0)).toArray (by simp [hsize]; omega)
    rw [hcs]
    show ((markStringish ⟨w.heap.size, 0, none⟩).run P (w.drew.alloc _)).andThen _ = _
    rw [h2]
    rfl
  · simp only [VRel, SlRel]
    refine ⟨_, 0, cap, by simp only [Phi.with, if_true]; rfl, by simp [hsize], by simpa [hsize] using hge, ?_, .inr rfl⟩
    simp only [List.length_map, Array.length_toList, List.length_replicate, hsize]
    omega
theorem store_empty {a : Addr} : (Go.storeCells a []).run P w = .ok () w := rfl
theorem copy_rel (hE : E.Ok P) {st : St} (H : HRel E φ st.hp w) {td : TypeId} {d x : AV} {dv xv : Value} (hd : VRel φ d dv) (hx : VRel φ x xv) {r : OR} (hc : copyV E td d x st = some r) (ts : Array TypeId) (hts : ts[0]? = some td) (ty : TypeId) :
    ∃ v h', r = .val v (st.at h') ∧ Gives P E φ st.hp w (Builtin.copy_ ts ty #[dv, xv]) v h' := by
  simp only [copyV, Option.bind_eq_bind, Option.bind_eq_some_iff] at hc
  obtain ⟨ay, hty, n, hn, hc⟩ := hc
  have hu := run_under hE hty (P := P)
  split at hc
  · rename_i e base dl cap hde
    rw [hde] at hu
    simp only [Option.bind_eq_some_iff] at hc
    obtain ⟨te, hte, cs, hcs, hc⟩ := hc
    obtain ⟨xs, hxs, hfx⟩ := firstV_rel (P := P) H hx hcs hn (Nat.min_le_left _ _)
    have hl := lenOf_rel (P := P) (w := w) hx hn
    have hi : VRel φ (.int .i64 (.ofNat (min n dl))) (goInt (min n dl : Nat)) := by simp only [VRel]; rfl
    have hi' : ∀ {φ'}, VRel φ' (.int .i64 (.ofNat (min n dl))) (goInt (min n dl : Nat)) := by intro φ'; simp only [VRel]; rfl
    cases base with
    | none =>
      simp only [Option.some.injEq] at hc
      subst hc
      have : ∃ c, dv = .slice none dl c := by simp only [VRel] at hd; unfold SlRel at hd; split at hd <;> simp_all
      obtain ⟨c, rfl⟩ := this
      refine ⟨_, st.hp, rfl, Gives.same H ?_ hi⟩
      simp only [Builtin.copy_, hts, List.getElem?_toArray, List.getElem?_cons_zero, List.getElem?_cons_succ, Sem.run_bind, hu, Result.andThen_ok, hl, run_size hE hte, hfx w rfl]
      simp [Nat.min_def]
    | some p =>
      obtain ⟨b, o⟩ := p
      simp only [Option.bind_eq_some_iff, Option.some.injEq] at hc
      obtain ⟨h', hst, rfl⟩ := hc
      have : ∃ (L : Loc) (o' c : Nat), φ b = some L ∧ dv = .slice (some ⟨L.b, o', none⟩) dl c ∧ (dl = 0 ∨ o' = L.s + o) := by
        simp only [VRel] at hd
        cases cap with
        | known c => simp only [SlRel] at hd; obtain ⟨L, o', hp, rfl, h1, h2⟩ := hd; exact ⟨L, o', c, hp, rfl, h2.imp (fun _ => by omega) id⟩
        | room z => simp only [SlRel] at hd; obtain ⟨L, o', c', hp, rfl, h1, _, h2⟩ := hd; exact ⟨L, o', c', hp, rfl, h2⟩
      obtain ⟨L, o', c, hp, rfl, ho⟩ := this
      obtain ⟨w', hr, hH, hX⟩ := storeCells_rel (P := P) H hp hxs hst
      have hr' : (Go.storeCells ⟨L.b, o', none⟩ xs).run P w = .ok () w' := by
        rcases ho with h0 | rfl
        · have hx0 : xs = [] := by
            have : min n dl = 0 := by omega
            rw [this] at hfx
            have hf0 := hfx w rfl
            have hlen := hxs.length
            cases x with
            | slice a l c =>
              rw [this] at hcs
              cases a with
              | none => simp only [firstV, Option.some.injEq] at hcs; subst hcs; simp only [VRels] at hxs; exact hxs
              | some p =>
                simp only [firstV, Option.bind_eq_bind, Option.bind_eq_some_iff] at hcs
                obtain ⟨bl, _, hcs⟩ := hcs
                split at hcs
                · rw [Nat.zero_mul] at hcs; simp only [getN, Option.some.injEq] at hcs; subst hcs; simp only [VRels] at hxs; exact hxs
                · cases hcs
            | str s => rw [this] at hcs; simp only [firstV, List.take_zero, List.map_nil, Option.some.injEq] at hcs; subst hcs; simp only [VRels] at hxs; exact hxs
            | _ => simp [firstV] at hcs
          subst hx0
          rw [store_empty] at hr ⊢
          exact hr
        · exact hr
      refine ⟨_, h', rfl, φ, goInt (min n dl : Nat), w', ?_, hi', hH, hX⟩
      simp only [Builtin.copy_, hts, List.getElem?_toArray, List.getElem?_cons_zero, List.getElem?_cons_succ, Sem.run_bind, hu, Result.andThen_ok, hl, run_size hE hte, hfx w rfl]
      simp [Nat.min_def, hr']
  · cases hc
end
end Go.Av

/- The operations on memory, on both sides: the fourth part: maps, clear, assertions. -/
namespace Go.Av
section
variable {P : Program} {E : Env} {φ : Phi} {h : Heap} {w : World}

theorem zeroCells_rel {z : List AV} {zs : Array Value} (hz : VRels φ z zs.toList) (n : Nat) : VRels φ (zeros z n) (Builtin.zeroCells zs n).toList := made_rel hz n
theorem clear_rel (hE : E.Ok P) {st : St} (H : HRel E φ st.hp w) {t : TypeId} {x : AV} {xv : Value} (hx : VRel φ x xv) {r : OR} (hc : clearV E t x st = some r) (ts : Array TypeId) (hts : ts[0]? = some t) (ty : TypeId) :
    ∃ v h', r = .val v (st.at h') ∧ Gives P E φ st.hp w (Builtin.clear_ ts ty #[xv]) v h' := by
  simp only [clearV, Option.bind_eq_bind, Option.bind_eq_some_iff] at hc
  obtain ⟨ay, hty, hc⟩ := hc
  have hu := run_under hE hty (P := P)
  have hi : ∀ {φ'}, VRel φ' (.tuple []) (.tuple #[]) := by intro φ'; simp only [VRel]; exact ⟨_, rfl, .nil⟩
  split at hc
  · rename_i e b o n cap hd
    rw [hd] at hu
    have hxv : ∃ (L : Loc) (o' c : Nat), φ b = some L ∧ xv = .slice (some ⟨L.b, o', none⟩) n c ∧ (n = 0 ∨ o' = L.s + o) := by
      simp only [VRel] at hx
      cases cap with
      | known c => simp only [SlRel] at hx; obtain ⟨L, o', hp, rfl, h1, h2⟩ := hx; exact ⟨L, o', c, hp, rfl, h2.imp (fun _ => by omega) id⟩
      | room z => simp only [SlRel] at hx; obtain ⟨L, o', c', hp, rfl, h1, _, h2⟩ := hx; exact ⟨L, o', c', hp, rfl, h2⟩
    obtain ⟨L, o', c, hp, rfl, ho⟩ := hxv
    split at hc
    · rename_i h0
      cases hc
      subst h0
      refine ⟨_, st.hp, rfl, Gives.same (x := .tuple #[]) H ?_ hi⟩
      simp [Builtin.clear_, hts, hu]
    · rename_i h0
      simp only [Option.bind_eq_some_iff] at hc
      obtain ⟨te, hte, z, hz, hc⟩ := hc
      split at hc
      · rename_i hl
        simp only [Option.bind_eq_some_iff, Option.some.injEq] at hc
        obtain ⟨h', hs, rfl⟩ := hc
        obtain ⟨zv, hr, hor⟩ := run_zero hE hte hz w (P := P)
        have hv := (ofV_rel (φ := φ) 9 zv z hor).cells'
        obtain ⟨w', hr', hH, hX⟩ := storeCells_rel (P := P) H hp (zeroCells_rel hv n) hs
        obtain rfl := ho.resolve_left h0
        refine ⟨_, h', rfl, φ, .tuple #[], w', ?_, hi, hH, hX⟩
        cases n with
        | zero => exact absurd rfl h0
        | succ n => simp [Builtin.clear_, hts, hu, hr, hr']
      · cases hc
  · rename_i e n cap hd
    rw [hd] at hu
    cases hc
    have : ∃ l c, xv = .slice none l c := by simp only [VRel] at hx; unfold SlRel at hx; split at hx <;> simp_all
    obtain ⟨l, c, rfl⟩ := this
    refine ⟨_, st.hp, rfl, Gives.same (x := .tuple #[]) H ?_ hi⟩
    simp [Builtin.clear_, hts, hu]
  · cases hc

/-- A map in memory. -/
theorem map_obj (H : HRel E φ h w) {r : Nat} {es : List (AV × AV × Nat)} {clock : Nat} (hb : h.b.get r = some (.map es clock)) {x : Value} (hx : VRel φ (.map (some r)) x) :
    ∃ (L : Loc) (l : Array MapEntry), φ r = some L ∧ x = .map (some L.b) ∧ w.heap[L.b]? = some (.map l clock) ∧ ERel φ es l.toList ∧ (∀ w' : World, w'.heap = w.heap → (getObj L.b).run P w' = .ok (.map l clock) w') ∧
      (∀ o, (setObj L.b o).run P w = .ok () (setW w L.b o)) ∧ (∀ n o, (setObj L.b o).run P { w with drawn := n } = .ok () { setW w L.b o with drawn := n }) := by
  simp only [VRel] at hx
  obtain ⟨L, hp, rfl⟩ := hx
  have hbl := H.blk r L hp
  rw [hb] at hbl
  obtain ⟨l, hl, he⟩ := hbl
  refine ⟨L, l, hp, rfl, hl, he, fun w' hw' => by simp only [getObj, Sem.run, hw', hl], fun o => by simp only [setObj, Sem.run, hl]; rfl, fun n o => ?_⟩
  simp only [setObj, Sem.run]
  have : ({ w with drawn := n } : World).heap[L.b]? = some (.map l clock) := hl
  simp only [this]
  rfl
theorem setMap_rel (H : HRel E φ h w) {r : Nat} {es : List (AV × AV × Nat)} {clock : Nat} (hb : h.b.get r = some (.map es clock)) {L : Loc} (hp : φ r = some L) {es' : List (AV × AV × Nat)} {l' : Array MapEntry} (he : ERel φ es' l'.toList) (clock' : Nat) :
    HRel E φ (setMap h r es' clock') (setW w L.b (.map l' clock')) ∧ Ext φ h w φ (setMap h r es' clock') (setW w L.b (.map l' clock')) :=
  H.turn hp (by unfold Mod; rw [hb]; trivial) _ _ ⟨l', rfl, he⟩
/-- The fields of a key. -/
theorem keyFs_rel (hE : E.Ok P) {q : TypeId → AV → Bool} {b : Bool} {D : Nat} (hq : ∀ t x xv, q t x = true → VRel φ x xv → ∀ w, (Instr.checkKey b D t xv).run P w = .ok () w) {as : List AV} {xs : Array Value} (ha : VRels φ as xs.toList) :
    ∀ (fs : List Field), keyFs E q ((fs.filter fun f : Field => decide (f.name ≠ "_")).map fun f : Field => (f.type, f.offset)) as = true → ∀ w : World,
      (forIn fs PUnit.unit (fun f _ => do if f.name ≠ "_" then (do let x ← part f.type xs f.offset; Instr.checkKey b D f.type x; pure (.yield PUnit.unit)) else pure (.yield PUnit.unit)) : Sem PUnit).run P w = .ok PUnit.unit w := by
  intro fs
  induction fs with
  | nil => intro _ w; rfl
  | cons f fs ih =>
    intro h w
    by_cases hn : f.name ≠ "_"
    · rw [List.filter_cons_of_pos (by simpa using hn)] at h
      simp only [List.map_cons, keyFs] at h
      split at h
      · rename_i tf htf
        split at h
        · rename_i x hx
          simp only [Bool.and_eq_true] at h
          obtain ⟨xv, hxr, hxv⟩ := part_rel (P := P) hE htf ha hx
          simp only [List.forIn_cons, if_pos hn, Sem.run_bind, hxr, hq _ _ _ h.1 hxv, Result.andThen_ok, Sem.run_pure]
          exact ih h.2 w
        · cases h
      · cases h
    · rw [List.filter_cons_of_neg (by simpa using hn)] at h
      simp only [List.forIn_cons, if_neg hn, Sem.run_bind, Sem.run_pure, Result.andThen_ok]
      exact ih h w
theorem checkKey_rel (hE : E.Ok P) (b : Bool) : ∀ (d : Nat) (t : TypeId) (k : AV) (kv : Value), keyV E d t k = true → VRel φ k kv → ∀ (D : Nat) (w : World), d ≤ D → (Instr.checkKey b D t kv).run P w = .ok () w := by
  intro d
  induction d with
  | zero => intro t k kv h; simp [keyV] at h
  | succ d ih =>
    intro t k kv h hk D w hD
    obtain ⟨D, rfl⟩ : ∃ D', D = D' + 1 := ⟨D - 1, by omega⟩
    unfold keyV at h
    split at h
    · rename_i ty hty
      have hu := run_under hE hty w (P := P)
      split at h
      · rename_i hd; rw [hd] at hu; simp [Instr.checkKey, hu]
      · rename_i hd; rw [hd] at hu; simp [Instr.checkKey, hu]
      · rename_i hd; rw [hd] at hu; simp [Instr.checkKey, hu]
      · rename_i fs hd
        split at h
        · rename_i cs
          rw [hd] at hu
          simp only [VRel] at hk
          obtain ⟨xs, rfl, hk⟩ := hk
          obtain ⟨_, _, _, _, _, _, _, _, _, hq⟩ := hE.ty t ty hty
          rw [hq fs hd] at h
          have := keyFs_rel hE (b := b) (D := D) (fun t x xv h1 h2 w => ih t x xv h1 h2 D w (by omega)) hk fs.toList h w
          simp only [Instr.checkKey, Sem.run_bind, hu, Result.andThen_ok]
          rw [← Array.forIn_toList]
          simp at this ⊢
          rw [this]
          rfl
        · cases h
      · cases h
    · cases h
end
end Go.Av

/- The operations on memory, on both sides: the fifth part: maps. -/
namespace Go.Av
section
variable {P : Program} {E : Env} {φ : Phi} {h : Heap} {w : World}

theorem keyThatStays_rel {a b : Value} {k : AV} (ha : VRel φ k a) (hb : VRel φ k b) : ∃ x n, (Instr.keyThatStays a b).run P w = .ok x { w with drawn := n } ∧ VRel φ k x := by
  unfold Instr.keyThatStays
  split
  · exact ⟨b, w.drawn, rfl, hb⟩
  · simp only [Sem.run_bind, run_choose, Question.forced]
    by_cases hc : (2 : Nat) ≤ 1
    · omega
    · by_cases h0 : (Question.cut (.extern "map.whichKeyStays" 2) (w.tape w.drawn (.extern "map.whichKeyStays" 2))) = 0
      · exact ⟨b, w.drawn + 1, by simp [h0], hb⟩
      · exact ⟨a, w.drawn + 1, by simp [h0], ha⟩
theorem lookup_rel (hE : E.Ok P) (H : HRel E φ h w) {t kt et : TypeId} {ty te : ATy} (hty : E.t t = some ty) (hd : ty.d = .map kt et) {r : Option Nat} {x kx : Value} {k : AV} (hx : VRel φ (.map r) x) (hk : VRel φ k kx)
    (hkey : keyV E 9 kt k = true) {es : List (AV × AV × Nat)} (hes : mapAt h r = some es) (hte : E.t et = some te) {f : Option (Nat × AV)} (hf : findK E kt k es 0 = some f) {v : AV} (ok : Bool)
    (hv : (∃ p, f = some p ∧ v = (if ok then .tuple [p.2, .bool true] else p.2)) ∨ (f = none ∧ ∃ z, te.zero = some z ∧ v = (if ok then .tuple [z, .bool false] else z))) :
    ∃ x', (Instr.lookup t x kx ok).run P w = .ok x' w ∧ VRel φ v x' := by
  have hu := run_under hE hty w (P := P)
  rw [hd] at hu
  obtain ⟨tk, htk⟩ : ∃ tk, E.t kt = some tk := by
    cases e : E.t kt with
    | none => simp [keyV, e] at hkey
    | some tk => exact ⟨tk, rfl⟩
  have hrest : ∀ l : Array MapEntry, ERel φ es l.toList → ∀ y, (∀ b, (Instr.checkKey b 10000 kt kx).run P w = .ok () w) → (do
      Instr.checkKey l.isEmpty 10000 kt kx
      let (v, ok') ← match ← Instr.findKey kt kx l.toList with
        | some (_, v) => pure (v, true)
        | none => pure (← zeroValue et, false)
      pure (if ok then .tuple #[v, .bool ok'] else v) : Sem Value).run P w = y → ∃ x', y = .ok x' w ∧ VRel φ v x' := by
    intro l hl y hck hy
    obtain ⟨r', hr', hfk, _⟩ := findK_rel (P := P) hE htk hk hl hf
    simp only [Sem.run_bind, hck, hfk, Result.andThen_ok] at hy
    rcases hv with ⟨p, rfl, rfl⟩ | ⟨rfl, z, hz, rfl⟩
    · obtain ⟨q, rfl⟩ : ∃ q, r' = some q := by cases r' <;> simp [FRel] at hr'; exact ⟨_, rfl⟩
      obtain ⟨_, hq⟩ := hr'
      subst hy
      cases ok
      · exact ⟨q.2, rfl, hq⟩
      · refine ⟨.tuple #[q.2, .bool true], rfl, ?_⟩
        simp only [if_true, VRel]
        exact ⟨_, rfl, .cons hq (.cons (by simp [VRel]) .nil)⟩
    · obtain rfl : r' = none := by cases r' <;> simp [FRel] at hr' <;> rfl
      obtain ⟨zv, hzr, hzo⟩ := run_zero hE hte hz w (P := P)
      subst hy
      have hzv := ofV_rel (φ := φ) 9 zv z hzo
      cases ok
      · exact ⟨zv, by simp [hzr], by simpa using hzv⟩
      · refine ⟨.tuple #[zv, .bool false], by simp [hzr], ?_⟩
        simp only [if_true, VRel]
        exact ⟨_, rfl, .cons hzv (.cons (by simp [VRel]) .nil)⟩
  have hck : ∀ b, (Instr.checkKey b 10000 kt kx).run P w = .ok () w := fun b => checkKey_rel hE b 9 kt k kx hkey hk 10000 w (by decide)
  cases r with
  | none =>
    simp only [VRel] at hx
    subst hx
    simp only [mapAt, Option.some.injEq] at hes
    subst hes
    obtain ⟨x', hx', hv'⟩ := hrest #[] (by simp [ERel]) _ hck rfl
    refine ⟨x', ?_, hv'⟩
    simp only [Instr.lookup, Sem.run_bind, hu, Result.andThen_ok, Sem.run_pure] at hx' ⊢
    exact hx'
  | some r =>
    simp only [mapAt, Option.bind_eq_bind, Option.bind_eq_some_iff] at hes
    obtain ⟨bk, hb, hes⟩ := hes
    split at hes
    · rename_i es' clock
      cases hes
      obtain ⟨L, l, hp, rfl, hl, he, hg, _⟩ := map_obj (P := P) H hb hx
      obtain ⟨x', hx', hv'⟩ := hrest l he _ hck rfl
      refine ⟨x', ?_, hv'⟩
      simp only [Instr.lookup, Sem.run_bind, hu, Result.andThen_ok, Sem.run_pure, hg w rfl] at hx' ⊢
      exact hx'
    · cases hes
/-- A found key, on both sides, and what stays. -/
theorem found {es : List (AV × AV × Nat)} {l : Array MapEntry} (he : ERel φ es l.toList) {i : Nat} {e : AV × AV × Nat} (hi : es[i]? = some e) {k : AV} (hek : eqAV 9 e.1 k = true) {kx : Value} (hk : VRel φ k kx) :
    ∃ y, l[i]? = some y ∧ VRel φ e.2.1 y.val ∧ e.2.2 = y.born ∧ ∃ x n, (Instr.keyThatStays (((l[i]?).map (·.key)).getD kx) kx).run P w = .ok x { w with drawn := n } ∧ VRel φ k x := by
  obtain ⟨y, hy, h1, h2, h3⟩ := he.get hi
  rw [eqAV_eq 9 _ _ hek] at h1
  have hy' : l[i]? = some y := by simpa using hy
  obtain ⟨x, n, hx, hr⟩ := keyThatStays_rel (P := P) (w := w) h1 hk
  exact ⟨y, hy', h2, h3, x, n, by simpa [hy'] using hx, hr⟩
theorem arr_modify (l : Array MapEntry) (i : Nat) (f : MapEntry → MapEntry) : (l.modify i f).toList = l.toList.modify i f := by simp
/-- The map is turned, and maybe an answer drawn. -/
theorem turned (H : HRel E φ h w) {r : Nat} {es : List (AV × AV × Nat)} {clock : Nat} (hb : h.b.get r = some (.map es clock)) {L : Loc} (hp : φ r = some L) {es' : List (AV × AV × Nat)} {l' : Array MapEntry} (he : ERel φ es' l'.toList) (clock' n : Nat) :
    HRel E φ (setMap h r es' clock') { setW w L.b (.map l' clock') with drawn := n } ∧ Ext φ h w φ (setMap h r es' clock') { setW w L.b (.map l' clock') with drawn := n } := by
  obtain ⟨h1, h2⟩ := setMap_rel H hb hp he clock'
  exact ⟨h1.drew n, Ext.trans H h2 (.drew n)⟩
theorem mapUpdate_rel (hE : E.Ok P) (H : HRel E φ h w) {t kt et : TypeId} {ty : ATy} (hty : E.t t = some ty) (hd : ty.d = .map kt et) {r : Nat} {x kx vx : Value} {k v : AV} (hx : VRel φ (.map (some r)) x) (hk : VRel φ k kx) (hv : VRel φ v vx)
    (hkey : keyV E 9 kt k = true) {es : List (AV × AV × Nat)} {clock : Nat} (hb : h.b.get r = some (.map es clock)) {f : Option (Nat × AV)} (hf : findK E kt k es 0 = some f) {h' : Heap}
    (hh : (∃ p e, f = some p ∧ es[p.1]? = some e ∧ eqAV 9 e.1 k = true ∧ h' = setMap h r (es.modify p.1 fun e => (k, v, e.2.2)) clock) ∨ (f = none ∧ h' = setMap h r (es ++ [(k, v, clock)]) (clock + 1))) :
    ∃ w', (Instr.mapUpdate t x kx vx).run P w = .ok () w' ∧ HRel E φ h' w' ∧ Ext φ h w φ h' w' := by
  have hu := run_under hE hty w (P := P)
  rw [hd] at hu
  obtain ⟨tk, htk⟩ : ∃ tk, E.t kt = some tk := by
    cases e : E.t kt with
    | none => simp [keyV, e] at hkey
    | some tk => exact ⟨tk, rfl⟩
  have hck := checkKey_rel (P := P) hE false 9 kt k kx hkey hk 10000 w (by decide)
  obtain ⟨L, l, hp, rfl, hl, he, hg, hs1, hs2⟩ := map_obj (P := P) H hb hx
  obtain ⟨r', hr', hfk, _⟩ := findK_rel (P := P) hE htk hk he hf
  rcases hh with ⟨p, e, rfl, hi, hek, rfl⟩ | ⟨rfl, rfl⟩
  · obtain ⟨q, rfl⟩ : ∃ q, r' = some q := by cases r' <;> simp [FRel] at hr'; exact ⟨_, rfl⟩
    obtain ⟨hpq, _⟩ := hr'
    obtain ⟨y, hy, hyv, hyb, kx', n, hrun, hkr⟩ := found (P := P) (w := w) he hi hek hk
    have := turned H hb hp (es' := es.modify p.1 fun e => (k, v, e.2.2)) (l' := l.modify q.1 fun e => { e with key := kx', val := vx }) (by rw [arr_modify, ← hpq]; exact he.modify _ fun e y _ _ _ _ h3 => ⟨hkr, hv, h3⟩) clock n
    refine ⟨_, ?_, this⟩
    rw [hpq] at hrun
    simp only [Instr.mapUpdate, Sem.run_bind, hu, Result.andThen_ok, hg w rfl, hck, hfk, hrun, hs2]
  · obtain rfl : r' = none := by cases r' <;> simp [FRel] at hr' <;> rfl
    have := setMap_rel H hb hp (es' := es ++ [(k, v, clock)]) (l' := l.push { key := kx, val := vx, born := clock }) (by rw [Array.toList_push]; exact he.append hk hv rfl) (clock + 1)
    refine ⟨_, ?_, this⟩
    simp only [Instr.mapUpdate, Sem.run_bind, hu, Result.andThen_ok, hg w rfl, hck, hfk, hs1]
theorem mapEntry_rel (hE : E.Ok P) (H : HRel E φ h w) {t kt et : TypeId} {ty : ATy} (hty : E.t t = some ty) (hd : ty.d = .map kt et) {r : Nat} {x kx : Value} {k v : AV} (hx : VRel φ (.map (some r)) x) (hk : VRel φ k kx)
    (hkey : keyV E 9 kt k = true) {es : List (AV × AV × Nat)} {clock : Nat} (hb : h.b.get r = some (.map es clock)) {f : Option (Nat × AV)} (hf : findK E kt k es 0 = some f) {h' : Heap}
    (hh : (∃ p e, f = some p ∧ es[p.1]? = some e ∧ eqAV 9 e.1 k = true ∧ h' = setMap h r (es.modify p.1 fun e => (k, e.2)) clock ∧ v = .tuple [p.2, .int .i64 (.ofNat e.2.2)]) ∨
      (f = none ∧ ∃ te z, E.t et = some te ∧ te.zero = some z ∧ h' = setMap h r (es ++ [(k, z, clock)]) (clock + 1) ∧ v = .tuple [z, .int .i64 (.ofNat clock)])) :
    Gives P E φ h w (Instr.mapEntry t x kx) v h' := by
  have hu := run_under hE hty w (P := P)
  rw [hd] at hu
  obtain ⟨tk, htk⟩ : ∃ tk, E.t kt = some tk := by
    cases e : E.t kt with
    | none => simp [keyV, e] at hkey
    | some tk => exact ⟨tk, rfl⟩
  have hck := checkKey_rel (P := P) hE false 9 kt k kx hkey hk 10000 w (by decide)
  obtain ⟨L, l, hp, rfl, hl, he, hg, hs1, hs2⟩ := map_obj (P := P) H hb hx
  obtain ⟨r', hr', hfk, _⟩ := findK_rel (P := P) hE htk hk he hf
  rcases hh with ⟨p, e, rfl, hi, hek, rfl, rfl⟩ | ⟨rfl, te, z, hte, hz, rfl, rfl⟩
  · obtain ⟨q, rfl⟩ : ∃ q, r' = some q := by cases r' <;> simp [FRel] at hr'; exact ⟨_, rfl⟩
    obtain ⟨hpq, hq⟩ := hr'
    obtain ⟨y, hy, hyv, hyb, kx', n, hrun, hkr⟩ := found (P := P) (w := w) he hi hek hk
    have := turned H hb hp (es' := es.modify p.1 fun e => (k, e.2)) (l' := l.modify q.1 fun e => { e with key := kx' }) (by rw [arr_modify, ← hpq]; exact he.modify _ fun e y _ _ _ h2 h3 => ⟨hkr, h2, h3⟩) clock n
    refine ⟨φ, .tuple #[q.2, goInt y.born], _, ?_, ?_, this⟩
    · rw [hpq] at hrun hy
      simp only [hy] at hrun
      simp only [Instr.mapEntry, Sem.run_bind, hu, Result.andThen_ok, Sem.run_pure, hg w rfl, hck, hfk, hy, hrun, hs2]
      rfl
    · simp only [VRel]
      exact ⟨_, rfl, .cons hq (.cons (by simp only [VRel, goInt, hyb]; rfl) .nil)⟩
  · obtain rfl : r' = none := by cases r' <;> simp [FRel] at hr' <;> rfl
    obtain ⟨zv, hzr, hzo⟩ := run_zero hE hte hz w (P := P)
    have hzv := ofV_rel (φ := φ) 9 zv z hzo
    have := setMap_rel H hb hp (es' := es ++ [(k, z, clock)]) (l' := l.push { key := kx, val := zv, born := clock }) (by rw [Array.toList_push]; exact he.append hk hzv rfl) (clock + 1)
    refine ⟨φ, .tuple #[zv, goInt clock], _, ?_, ?_, this⟩
    · simp only [Instr.mapEntry, Sem.run_bind, hu, Result.andThen_ok, Sem.run_pure, hg w rfl, hck, hfk, hzr, hs1]
    · simp only [VRel]
      exact ⟨_, rfl, .cons hzv (.cons (by simp only [VRel, goInt]; rfl) .nil)⟩
theorem find_born (b : Nat) : ∀ {es : List (AV × AV × Nat)} {l : List MapEntry}, ERel φ es l → es.findIdx? (fun e => e.2.2 == b) = l.findIdx? (fun e => (e.born : Int) == Int.ofNat b) := by
  intro es
  induction es with
  | nil => intro l h; simp only [ERel] at h; subst h; rfl
  | cons e es ih =>
    intro l h
    obtain ⟨y, ys, rfl, h1, h2, h3, h⟩ := h
    have : (e.2.2 == b) = ((y.born : Int) == Int.ofNat b) := by
      rw [h3, Bool.eq_iff_iff]; simp only [beq_iff_eq]; exact ⟨fun h => congrArg Int.ofNat h, fun h => Int.ofNat.inj h⟩
    simp [List.findIdx?_cons, ih h, this]
theorem entryStore_rel (H : HRel E φ h w) {r b : Nat} {kd : IntKind} {x sx vx : Value} {v : AV} (hx : VRel φ (.map (some r)) x) (hs : VRel φ (.int kd (.ofNat b)) sx) (hv : VRel φ v vx)
    {es : List (AV × AV × Nat)} {clock : Nat} (hb : h.b.get r = some (.map es clock)) {i : Nat} (hi : es.findIdx? (fun e => e.2.2 == b) = some i) (t : TypeId) :
    ∃ w', (Instr.entryStore t x sx vx).run P w = .ok () w' ∧ HRel E φ (setMap h r (es.modify i fun e => (e.1, v, e.2.2)) clock) w' ∧ Ext φ h w φ (setMap h r (es.modify i fun e => (e.1, v, e.2.2)) clock) w' := by
  obtain ⟨L, l, hp, rfl, hl, he, hg, hs1, hs2⟩ := map_obj (P := P) H hb hx
  have := setMap_rel H hb hp (es' := es.modify i fun e => (e.1, v, e.2.2)) (l' := l.modify i fun e => { e with val := vx }) (by rw [arr_modify]; exact he.modify _ fun e y _ _ h1 _ h3 => ⟨h1, hv, h3⟩) clock
  refine ⟨_, ?_, this⟩
  simp only [VRel] at hs
  subst hs
  have hfi := find_born (φ := φ) b he
  rw [hi] at hfi
  have hfa : l.findIdx? (fun e => (e.born : Int) == Int.ofNat b) = some i := by rw [hfi, ← List.findIdx?_toArray]
  simp only [Instr.entryStore, Sem.run_bind, Result.andThen_ok, hg w rfl, asInt, asIntOf, Sem.run_pure, hfa, hs1]
theorem delete_rel (hE : E.Ok P) {st : St} (H : HRel E φ st.hp w) {t : TypeId} {m k : AV} {x kx : Value} (hx : VRel φ m x) (hk : VRel φ k kx) {o : OR} (hc : deleteV E t m k st = some o) (ts : Array TypeId) (hts : ts[0]? = some t) (ty' : TypeId) :
    ∃ v h', o = .val v (st.at h') ∧ Gives P E φ st.hp w (Builtin.delete_ ts ty' #[x, kx]) v h' := by
  simp only [deleteV, Option.bind_eq_bind, Option.bind_eq_some_iff] at hc
  obtain ⟨ty, hty, hc⟩ := hc
  split at hc
  · rename_i kt et r hd
    simp only [Option.bind_eq_some_iff] at hc
    obtain ⟨bk, hb, hc⟩ := hc
    split at hc
    · rename_i es clock
      split at hc
      · rename_i hkey
        simp only [Option.bind_eq_some_iff] at hc
        obtain ⟨f, hf, hc⟩ := hc
        have hu := run_under hE hty w (P := P)
        rw [hd] at hu
        obtain ⟨tk, htk⟩ : ∃ tk, E.t kt = some tk := by
          cases e : E.t kt with
          | none => simp [keyV, e] at hkey
          | some tk => exact ⟨tk, rfl⟩
        have hck := fun b => checkKey_rel (P := P) hE b 9 kt k kx hkey hk 10000 w (by decide)
        obtain ⟨L, l, hp, rfl, hl, he, hg, hs1, hs2⟩ := map_obj (P := P) H hb hx
        obtain ⟨r', hr', hfk, _⟩ := findK_rel (P := P) hE htk hk he hf
        cases f with
        | some p =>
          obtain ⟨q, rfl⟩ : ∃ q, r' = some q := by cases r' <;> simp [FRel] at hr'; exact ⟨_, rfl⟩
          obtain ⟨hpq, _⟩ := hr'
          simp only [Option.some.injEq] at hc
          subst hc
          have := setMap_rel H hb hp (es' := es.eraseIdx p.1) (l' := l.eraseIdxIfInBounds q.1) (by rw [Array.toList_eraseIdxIfInBounds, ← hpq]; exact he.erase _) clock
          refine ⟨_, _, rfl, φ, .tuple #[], _, ?_, by simp only [VRel]; exact ⟨_, rfl, .nil⟩, this⟩
          simp [Builtin.delete_, hts, hu, hg w rfl, hck, hfk, hs1]
        | none =>
          obtain rfl : r' = none := by cases r' <;> simp [FRel] at hr' <;> rfl
          simp only [Option.some.injEq] at hc
          subst hc
          refine ⟨_, st.hp, rfl, φ, .tuple #[], w, ?_, by simp only [VRel]; exact ⟨_, rfl, .nil⟩, H, .refl ..⟩
          have hself : setW w L.b (.map l clock) = w := setW_self hl
          simp [Builtin.delete_, hts, hu, hg w rfl, hck, hfk, hs1, hself]
      · cases hc
    · cases hc
  · cases hc
end
end Go.Av

/- The operations on memory, on both sides: the sixth part: len, cap, max, min, assertions; one operation as a whole. -/
namespace Go.Av
section
variable {P : Program} {E : Env} {φ : Phi} {h : Heap} {w : World}

theorem len_rel (hE : E.Ok P) (H : HRel E φ h w) {t : TypeId} {x : AV} {xv : Value} (hx : VRel φ x xv) {n : Nat} (hl : lenV E h t x = some n) (ts : Array TypeId) (hts : ts[0]? = some t) (ty' : TypeId) :
    (Builtin.len_ ts ty' #[xv]).run P w = .ok (goInt n) w := by
  simp only [lenV, Option.bind_eq_bind, Option.bind_eq_some_iff] at hl
  obtain ⟨ty, hty, hl⟩ := hl
  have hu := run_under hE hty w (P := P)
  split at hl
  · rename_i s hd
    rw [hd] at hu
    cases hl
    simp only [VRel] at hx
    obtain ⟨b, rfl, rfl⟩ := hx
    simp [Builtin.len_, hts, hu]
  · rename_i m e hd
    rw [hd] at hu
    cases hl
    simp [Builtin.len_, hts, hu]
  · rename_i a hd
    rw [hd] at hu
    simp only [Option.bind_eq_some_iff] at hl
    obtain ⟨ta, hta, hl⟩ := hl
    have hua := run_under hE hta w (P := P)
    split at hl
    · rename_i m e hd'
      rw [hd'] at hua
      cases hl
      simp [Builtin.len_, hts, hu, hua]
    · cases hl
  · rename_i e base m cap hd
    rw [hd] at hu
    cases hl
    have : ∃ b c, xv = .slice b n c := by
      simp only [VRel] at hx; unfold SlRel at hx
      split at hx
      · exact ⟨_, _, hx.1⟩
      · cases hx
      · obtain ⟨_, _, _, rfl, _⟩ := hx; exact ⟨_, _, rfl⟩
      · obtain ⟨_, _, _, _, rfl, _⟩ := hx; exact ⟨_, _, rfl⟩
    obtain ⟨b, c, rfl⟩ := this
    simp [Builtin.len_, hts, hu]
  · rename_i k v hd
    rw [hd] at hu
    cases hl
    simp only [VRel] at hx
    subst hx
    simp [Builtin.len_, hts, hu]
  · rename_i k v r hd
    rw [hd] at hu
    simp only [Option.bind_eq_some_iff] at hl
    obtain ⟨bk, hb, hl⟩ := hl
    split at hl
    · rename_i es clock
      cases hl
      obtain ⟨L, l, hp, rfl, hl, he, hg, _⟩ := map_obj (P := P) H hb hx
      have := he.length
      simp [Builtin.len_, hts, hu, hg w rfl, this]
    · cases hl
  · cases hl
theorem foldI_max {k : IntKind} : ∀ {vs : List AV} {xs : List Value} {a n : Int}, VRels φ vs xs → foldI (fun x y => if y > x then y else x) k a vs = some n → (xs.foldlM Builtin.max2 (.int k a)).run P w = .ok (.int k n) w
  | [], xs, a, n, hv, h => by simp only [VRels] at hv; subst hv; simp only [foldI, Option.some.injEq] at h; subst h; rfl
  | v :: vs, xs, a, n, hv, h => by
    obtain ⟨y, ys, rfl, h1, h2⟩ := by simpa only [VRels] using hv
    cases v <;> simp only [foldI, reduceCtorEq] at h
    rename_i k' b
    split at h
    · subst k
      simp only [VRel] at h1
      subst h1
      simp only [List.foldlM_cons, Builtin.max2, Sem.run_bind, Sem.run_pure, Result.andThen_ok]
      exact foldI_max h2 h
    · cases h
theorem foldI_min {k : IntKind} : ∀ {vs : List AV} {xs : List Value} {a n : Int}, VRels φ vs xs → foldI (fun x y => if y < x then y else x) k a vs = some n → (xs.foldlM Builtin.min2 (.int k a)).run P w = .ok (.int k n) w
  | [], xs, a, n, hv, h => by simp only [VRels] at hv; subst hv; simp only [foldI, Option.some.injEq] at h; subst h; rfl
  | v :: vs, xs, a, n, hv, h => by
    obtain ⟨y, ys, rfl, h1, h2⟩ := by simpa only [VRels] using hv
    cases v <;> simp only [foldI, reduceCtorEq] at h
    rename_i k' b
    split at h
    · subst k
      simp only [VRel] at h1
      subst h1
      simp only [List.foldlM_cons, Builtin.min2, Sem.run_bind, Sem.run_pure, Result.andThen_ok]
      exact foldI_min h2 h
    · cases h

/-- What an operation looks at is the same on both sides. -/
def Sees (φ : Phi) (tm : T AV) (a : Act) (xs : Array Operand) : Prop := ∀ x ∈ xs, ∀ v, ev tm x = some v → VRel φ v (a.eval x)
theorem TRel.sees {tm : T AV} {nt : Nat} {a : Act} (r : TRel φ tm nt a.tmps) (xs : Array Operand) : Sees φ tm a xs := fun _ _ _ h => ev_rel r h
theorem Sees.evs {tm : T AV} {a : Act} {ys : Array Operand} (r : Sees φ tm a ys) : ∀ {xs : List Operand} {vs : List AV}, (∀ x ∈ xs, x ∈ ys) → Av.evs tm xs = some vs → VRels φ vs (xs.map a.eval)
  | [], vs, _, h => by simp only [Av.evs, Option.some.injEq] at h; subst h; exact .nil
  | x :: xs, vs, hm, h => by
    simp only [Av.evs, Option.bind_eq_bind, Option.bind_eq_some_iff] at h
    obtain ⟨v, hv, ws, hw, h⟩ := h
    cases h
    exact .cons (r x (hm x (by simp)) v hv) (Sees.evs r (fun y hy => hm y (by simp [hy])) hw)
theorem Sees.parts {tm : T AV} {a : Act} {ys : Array Operand} (r : Sees φ tm a ys) : ∀ {xs : List (Nat × Operand)} {vs : List (Nat × AV)}, (∀ x ∈ xs, x.2 ∈ ys) → evParts tm xs = some vs → PRel φ vs (xs.map fun p => (p.1, a.eval p.2))
  | [], vs, _, h => by simp only [evParts, Option.some.injEq] at h; subst h; simp [PRel]
  | (i, x) :: xs, vs, hm, h => by
    simp only [evParts, Option.bind_eq_bind, Option.bind_eq_some_iff] at h
    obtain ⟨v, hv, ws, hw, h⟩ := h
    cases h
    exact ⟨_, _, rfl, rfl, r x (hm (i, x) (by simp)) v hv, Sees.parts r (fun y hy => hm y (by simp [hy])) hw⟩
theorem Sees.evO {tm : T AV} {a : Act} {ys : Array Operand} (r : Sees φ tm a ys) {x : Option Operand} (hm : ∀ y, x = some y → y ∈ ys) {v : Option AV} (h : Av.evO tm x = some v) : ORel φ v (x.map a.eval) := by
  cases x with
  | none => simp only [Av.evO, Option.some.injEq] at h; subst h; trivial
  | some x =>
    simp only [Av.evO, Option.map_eq_some_iff] at h
    obtain ⟨y, hy, rfl⟩ := h
    exact r x (hm x rfl) y hy

/-- How one operation goes. -/
def Done (P : Program) (E : Env) (φ : Phi) (st : St) (w : World) (sem : Sem Next) : OR → Prop
  | .val v st' => st'.tm = st.tm ∧ st'.df = st.df ∧ st'.up = st.up ∧ ∃ φ' n w', sem.run P w = .ok n w' ∧ ((∃ x, n = .value x ∧ VRel φ' v x) ∨ (n = .skip ∧ v = .undef)) ∧ HRel E φ' st'.hp w' ∧ Ext φ st.hp w φ' st'.hp w'
  | .pan c st' => st'.tm = st.tm ∧ st'.df = st.df ∧ st'.up = st.up ∧ ∃ φ' xa x w', c = [(xa, false)] ∧ sem.run P w = .halt (.panic x) w' ∧ VRel φ' xa x ∧ HRel E φ' st'.hp w' ∧ Ext φ st.hp w φ' st'.hp w'
theorem Gives.done {st : St} {s : Sem Value} {v : AV} {h' : Heap} (g : Gives P E φ st.hp w s v h') : Done P E φ st w (do pure (.value (← s))) (.val v (st.at h')) := by
  obtain ⟨φ', x, w', hr, hv, hH, hX⟩ := g
  exact ⟨rfl, rfl, rfl, φ', .value x, w', by simp [hr], .inl ⟨x, rfl, hv⟩, hH, hX⟩
theorem done_pure {st : St} (H : HRel E φ st.hp w) {s : Sem Value} {v : AV} (g : ∃ x, s.run P w = .ok x w ∧ VRel φ v x) : Done P E φ st w (do pure (.value (← s))) (.val v st) := by
  obtain ⟨x, hr, hv⟩ := g
  exact ⟨rfl, rfl, rfl, φ, .value x, w, by simp [hr], .inl ⟨x, rfl, hv⟩, H, .refl ..⟩
theorem done_unit {st : St} {s : Sem Unit} {h' : Heap} (g : ∃ w', s.run P w = .ok () w' ∧ HRel E φ h' w' ∧ Ext φ st.hp w φ h' w') : Done P E φ st w (do s; pure .skip) (.val .undef (st.at h')) := by
  obtain ⟨w', hr, hH, hX⟩ := g
  exact ⟨rfl, rfl, rfl, φ, .skip, w', by simp [hr], .inr ⟨rfl, rfl⟩, hH, hX⟩
theorem valR_some {st : St} {x : Option AV} {r : OR} (h : valR st x = some r) : ∃ v, x = some v ∧ r = .val v st := by
  cases x <;> simp [valR] at h; exact ⟨_, rfl, h.symm⟩
theorem laid_some {st : St} {x : Option Heap} {v : AV} {r : OR} (h : laid st x v = some r) : ∃ h', x = some h' ∧ r = .val v (st.at h') := by
  cases x <;> simp [laid] at h; exact ⟨_, rfl, h.symm⟩

theorem makeMap_rel (hE : E.Ok P) (H : HRel E φ h w) {t k e : TypeId} {ty : ATy} (hty : E.t t = some ty) (hd : ty.d = .map k e) {r : Option AV} {r' : Option Value} (hr : ORel φ r r') (hi : ∀ x, r = some x → ∃ k n, x = .int k n) :
    Gives P E φ h w (Instr.makeMap t r') (.map (some h.next)) (newBlk h (.map [] 0)) := by
  have hu := run_under hE hty (P := P)
  rw [hd] at hu
  have hp := HRel.push H (.map [] 0) (.map #[] 0) ⟨w.heap.size, 0, 0⟩ rfl
    ⟨#[], by simp, by simp [ERel]⟩
  have hv : VRel (φ.with h.next ⟨w.heap.size, 0, 0⟩) (.map (some h.next)) (.map (some w.heap.size)) := by
    simp only [VRel]; exact ⟨⟨w.heap.size, 0, 0⟩, by simp [Phi.with], rfl⟩
  cases r with
  | none =>
    cases r' <;> simp [ORel] at hr
    exact ⟨_, _, _, by simp [Instr.makeMap], hv, hp⟩
  | some x =>
    cases r' <;> simp only [ORel] at hr
    obtain ⟨k', n, rfl⟩ := hi x rfl
    simp only [VRel] at hr
    subst hr
    exact ⟨_, _, _, by simp [Instr.makeMap, hu, asInt, asIntOf], hv, hp⟩
end
end Go.Av

/- One operation as a whole: those that are no calls. -/
namespace Go.Av
section
variable {P : Program} {E : Env} {φ : Phi} {h : Heap} {w : World}

theorem typeAssert_done (hE : E.Ok P) {st : St} (H : HRel E φ st.hp w) {x : Operand} {asserted xt : TypeId} {ok : Bool} {a : Act} (r : ∀ v, ev st.tm x = some v → VRel φ v (a.eval x)) {o : OR} (ho : oTypeAssert E st x asserted ok = some o) :
    Done P E φ st w (do pure (.value (← Instr.typeAssert (a.eval x) xt asserted ok))) o := by
  simp only [oTypeAssert, Option.bind_eq_bind, Option.bind_eq_some_iff] at ho
  obtain ⟨ta, hta, v, hv, ho⟩ := ho
  have hx := r v hv
  have hu := run_under hE hta (P := P)
  split at ho
  · cases ho
  · rename_i t v hni
    simp only [VRel] at hx
    obtain ⟨y, hy, hxy⟩ := hx
    rw [hy]
    have hne : ∀ i, ta.d ≠ .interface i := fun i hi => hni i hi
    split at ho
    · rename_i ht
      cases ho
      apply done_pure H
      refine ⟨if ok then .tuple #[y, .bool true] else y, ?_, ?_⟩
      · simp only [Instr.typeAssert, Sem.run_bind, hu, Result.andThen_ok]
        cases hd : ta.d <;> first | (exact absurd hd (hne _)) | (simp [ht])
      · cases ok
        · exact hxy
        · simp only [if_true, VRel]; exact ⟨_, rfl, .cons hxy (.cons (by simp [VRel]) .nil)⟩
    · rename_i ht
      split at ho
      · rename_i hok
        simp only [Option.bind_eq_some_iff, Option.some.injEq] at ho
        obtain ⟨z, hz, rfl⟩ := ho
        obtain ⟨zv, hzr, hzo⟩ := run_zero hE hta hz w (P := P)
        apply done_pure H
        refine ⟨.tuple #[zv, .bool false], ?_, ?_⟩
        · simp only [Instr.typeAssert, Sem.run_bind, hu, Result.andThen_ok]
          cases hd : ta.d <;> first | (exact absurd hd (hne _)) | (simp [ht, hok, hzr])
        · simp only [VRel]; exact ⟨_, rfl, .cons (ofV_rel 9 _ _ hzo) (.cons (by simp [VRel]) .nil)⟩
      · rename_i hok
        simp only [Option.bind_eq_some_iff] at ho
        obtain ⟨te, hte, ho⟩ := ho
        split at ho
        · rename_i e hde
          cases ho
          have hue := run_under hE hte (P := P)
          rw [hde, hE.rt] at hue
          have hval : ∃ cs : Array Value, (Instr.typeAssert (Value.iface t y) xt asserted ok).run P w = .halt (.panic (.iface E.rt.typeAssertionError (.pointer (some ⟨w.heap.size, 0, none⟩)))) (w.alloc (.cells cs e)) := by
            simp only [Instr.typeAssert, Sem.run_bind, hu, Result.andThen_ok]
            cases hd : ta.d <;> first | (exact absurd hd (hne _)) | (simp [ht, hok, runtimePanic, elemOf, hue, newVar, Go.newRow, goPanic, hE.rt]; exact ⟨_, rfl⟩)
          obtain ⟨cs, hval⟩ := hval
          have hp := HRel.push H .dead (.cells cs e) ⟨w.heap.size, 0, 0⟩ rfl trivial
          exact ⟨rfl, rfl, rfl, _, _, _, _, rfl, by simp only [Sem.run_bind, hval]; rfl, by
            simp only [VRel]; exact ⟨_, rfl, ⟨w.heap.size, 0, 0⟩, by simp [Phi.with], rfl⟩, hp⟩
        · cases ho
  · split at ho
    · rename_i hni hok
      simp only [Option.bind_eq_some_iff, Option.some.injEq] at ho
      obtain ⟨z, hz, rfl⟩ := ho
      obtain ⟨zv, hzr, hzo⟩ := run_zero hE hta hz w (P := P)
      simp only [VRel] at hx
      rw [hx]
      have hne : ∀ i, ta.d ≠ .interface i := fun i hi => hni i hi
      apply done_pure H
      refine ⟨.tuple #[zv, .bool false], ?_, ?_⟩
      · simp only [Instr.typeAssert, Sem.run_bind, hu, Result.andThen_ok]
        cases hd : ta.d <;> first | (exact absurd hd (hne _)) | (simp [hok, hzr])
      · simp only [VRel]; exact ⟨_, rfl, .cons (ofV_rel 9 _ _ hzo) (.cons (by simp [VRel]) .nil)⟩
    · cases ho
  · cases ho
end
end Go.Av

/- One operation as a whole: all that are no calls of code. -/
namespace Go.Av
section
variable {P : Program} {E : Env} {φ : Phi} {h : Heap} {w : World}

theorem toList2 {α : Type} {xs : Array α} {a b : α} (h : xs.toList = [a, b]) : xs = #[a, b] := by rw [← Array.toArray_toList (xs := xs), h]
theorem toList1 {α : Type} {xs : Array α} {a : α} (h : xs.toList = [a]) : xs = #[a] := by rw [← Array.toArray_toList (xs := xs), h]
theorem args_rel {tm : T AV} {a : Act} {ys : Array Operand} (r : Sees φ tm a ys) {xs : Array Operand} {vs : List AV} (hm : ∀ x ∈ xs, x ∈ ys) (h : evs tm xs.toList = some vs) : VRels φ vs (xs.map a.eval).toList := by
  rw [Array.toList_map]; exact r.evs (fun x hx => hm x (by simpa using hx)) h
theorem VRels.two {x y : AV} {l : Array Value} (h : VRels φ [x, y] l.toList) : ∃ a b, l = #[a, b] ∧ VRel φ x a ∧ VRel φ y b := by
  simp only [VRels] at h
  obtain ⟨a, l1, h1, hx, b, l2, rfl, hy, rfl⟩ := h
  exact ⟨a, b, toList2 h1, hx, hy⟩
theorem VRels.single {x : AV} {l : Array Value} (h : VRels φ [x] l.toList) : ∃ a, l = #[a] ∧ VRel φ x a := by
  simp only [VRels] at h
  obtain ⟨a, l1, h1, hx, rfl⟩ := h
  exact ⟨a, toList1 h1, hx⟩

/-- A built-in function. -/
theorem builtin_done (hE : E.Ok P) {st : St} (H : HRel E φ st.hp w) {cx : Cx} {b : Builtin} (hb : b ≠ .recover) {ts : Array TypeId} {vs : List AV} {xs : Array Value} (hv : VRels φ vs xs.toList) {q : OR} (h : builtinV E cx b ts.toList vs st = some q)
    (ty : TypeId) (cs : Array Bool) : Done P E φ st w (builtin b ts ty cs xs) q := by
  unfold builtinV at h
  split at h
  · rename_i t tx s x hts
    obtain ⟨sv, xv, rfl, hs, hx⟩ := hv.two
    obtain ⟨v, h', rfl, g⟩ := append_rel (P := P) (ty := ty) hE H hs hx h
    rw [toList2 hts]
    exact g.done
  · rename_i t x hts
    obtain ⟨xv, rfl, hx⟩ := hv.single
    simp only [Option.map_eq_some_iff] at h
    obtain ⟨n, hn, rfl⟩ := h
    exact done_pure H ⟨goInt n, len_rel hE H hx hn ts (by rw [toList1 hts]; rfl) ty, by simp only [VRel, goInt]; rfl⟩
  · rename_i t base len c hts
    obtain ⟨xv, rfl, hx⟩ := hv.single
    simp only [Option.bind_eq_bind, Option.bind_eq_some_iff] at h
    obtain ⟨ay, hty, h⟩ := h
    split at h
    · rename_i e hd
      cases h
      have hu := run_under hE hty w (P := P)
      rw [hd] at hu
      have : ∃ b, xv = .slice b len c := by
        simp only [VRel] at hx; unfold SlRel at hx
        split at hx
        · exact ⟨_, by rename_i e1; cases e1; exact hx.1⟩
        · cases hx
        · rename_i e1; cases e1; obtain ⟨_, _, _, rfl, _⟩ := hx; exact ⟨_, rfl⟩
        · rename_i e1; cases e1
      obtain ⟨b, rfl⟩ := this
      rw [toList1 hts]
      exact done_pure H ⟨goInt c, by simp [Builtin.cap_, hu], by simp only [VRel, goInt]; rfl⟩
    · cases h
  · rename_i td tl d x hts
    obtain ⟨dv, xv, rfl, hd, hx⟩ := hv.two
    obtain ⟨v, h', rfl, g⟩ := copy_rel (P := P) hE H hd hx h ts (by rw [← Array.getElem?_toList, hts]; rfl) ty
    exact g.done
  · rename_i t x hts
    obtain ⟨xv, rfl, hx⟩ := hv.single
    obtain ⟨v, h', rfl, g⟩ := clear_rel (P := P) hE H hx h ts (by rw [toList1 hts]; rfl) ty
    exact g.done
  · rename_i t tl m k hts
    obtain ⟨mv, kv, rfl, hm, hk⟩ := hv.two
    obtain ⟨v, h', rfl, g⟩ := delete_rel (P := P) hE H hm hk h ts (by rw [← Array.getElem?_toList, hts]; rfl) ty
    exact g.done
  · rename_i k n rest
    simp only [Option.map_eq_some_iff] at h
    obtain ⟨m, hm, rfl⟩ := h
    simp only [VRels] at hv
    obtain ⟨y, ys, hxs, rfl, hv⟩ := hv
    exact done_pure H ⟨.int k m, by simp only [Builtin.max_, hxs]; exact foldI_max hv hm, by simp [VRel]⟩
  · rename_i k n rest
    simp only [Option.map_eq_some_iff] at h
    obtain ⟨m, hm, rfl⟩ := h
    simp only [VRels] at hv
    obtain ⟨y, ys, hxs, rfl, hv⟩ := hv
    exact done_pure H ⟨.int k m, by simp only [Builtin.min_, hxs]; exact foldI_min hv hm, by simp [VRel]⟩
  · exact absurd rfl hb
  · cases h
set_option maxHeartbeats 2000000 in
/-- One operation that is no call of code. -/
theorem op_done (hE : E.Ok P) {R : Rec} {cx : Cx} {st : St} (H : HRel E φ st.hp w) {a : Act} {o : Oper} (r : Sees φ st.tm a o.op.operands) {q : OR} (h : opGo E R cx o.op st = some q)
    (hnc : ∀ c, o.op = .call c → ∃ b, c.callee = .builtin b ∧ b ≠ .recover) (hnd : ∀ c, o.op ≠ .defer c) : Done P E φ st w (execOp a.eval o) q := by
  unfold opGo at h
  unfold execOp
  split at h
  case h_1 x e => -- move
    rw [e]
    obtain ⟨v, hv, rfl⟩ := valR_some h
    exact ⟨rfl, rfl, rfl, φ, _, w, rfl, .inl ⟨_, rfl, r _ (by rw [e]; simp [Op.operands]) _ hv⟩, H, .refl ..⟩
  case h_2 x e => -- assign
    rw [e]
    obtain ⟨v, hv, rfl⟩ := valR_some h
    exact ⟨rfl, rfl, rfl, φ, _, w, rfl, .inl ⟨_, rfl, r _ (by rw [e]; simp [Op.operands]) _ hv⟩, H, .refl ..⟩
  case h_3 c x y e => -- pick
    rw [e]
    simp only [oPick, Option.bind_eq_bind, Option.bind_eq_some_iff] at h
    obtain ⟨c', hc, h⟩ := h
    split at h
    · rename_i b
      obtain ⟨v, hv, rfl⟩ := valR_some h
      have hcr := r _ (by rw [e]; simp [Op.operands]) _ hc
      simp only [VRel] at hcr
      refine ⟨rfl, rfl, rfl, φ, _, w, by simp [hcr]; rfl, .inl ⟨_, rfl, ?_⟩, H, .refl ..⟩
      cases b
      · exact r _ (by rw [e]; simp [Op.operands]) _ hv
      · exact r _ (by rw [e]; simp [Op.operands]) _ hv
    · cases h
  case h_4 t e => -- alloc
    rw [e]
    simp only [oAlloc, Option.bind_eq_bind, Option.bind_eq_some_iff] at h
    obtain ⟨ty, hty, z, hz, h⟩ := h
    obtain ⟨h', hs, rfl⟩ := laid_some h
    exact (alloc_rel (P := P) hE H hty hz hs).done
  case h_5 t x e => -- box
    rw [e]
    simp only [oBox, Option.bind_eq_bind, Option.bind_eq_some_iff] at h
    obtain ⟨ty, hty, v, hv, h⟩ := h
    obtain ⟨h', hs, rfl⟩ := laid_some h
    exact (box_rel (P := P) H hty (r _ (by rw [e]; simp [Op.operands]) _ hv) hs).done
  case h_6 t ps e => -- build
    rw [e]
    simp only [oBuild, Option.bind_eq_bind, Option.bind_eq_some_iff] at h
    obtain ⟨vs, hvs, h⟩ := h
    obtain ⟨v, hv, rfl⟩ := valR_some h
    exact done_pure H (buildV_rel hE (by rw [Array.toList_map]; exact r.parts (by intro y hy; rw [e]; simp only [Op.operands, List.mem_toArray, List.mem_map]; exact ⟨y, hy, rfl⟩) hvs) hv)
  case h_7 t len ps e => -- buildSlice
    rw [e]
    simp only [oBuildSlice, Option.bind_eq_bind, Option.bind_eq_some_iff] at h
    obtain ⟨ty, hty, vs, hvs, h⟩ := h
    split at h
    · rename_i el hd
      simp only [Option.bind_eq_some_iff] at h
      obtain ⟨te, hte, h⟩ := h
      split at h
      · rename_i hbig
        simp only [Option.bind_eq_some_iff] at h
        obtain ⟨zs, hzs, cs, hcs, h⟩ := h
        obtain ⟨h', hs, rfl⟩ := laid_some h
        exact (buildSlice_rel (P := P) hE H (by rw [Array.toList_map]; exact r.parts (by intro y hy; rw [e]; simp only [Op.operands, List.mem_toArray, List.mem_map]; exact ⟨y, hy, rfl⟩) hvs) hty hd hte hbig hzs hcs hs).done
      · cases h
    · cases h
  case h_8 t x e => -- load
    rw [e]
    simp only [oLoad, Option.bind_eq_bind, Option.bind_eq_some_iff] at h
    obtain ⟨p, hp, h⟩ := h
    split at h
    · rename_i b o'
      obtain ⟨v, hv, rfl⟩ := valR_some h
      have hx := r _ (by rw [e]; simp [Op.operands]) _ hp
      simp only [VRel] at hx
      obtain ⟨L, hL, hx⟩ := hx
      obtain ⟨y, hy, hyv⟩ := loadVar_rel (P := P) hE H hL hv
      exact done_pure H ⟨y, by simp only [Instr.loadAt, hx, Instr.sureAddr, Sem.run_bind, Sem.run_pure, Result.andThen_ok]; exact hy, hyv⟩
    · cases h
  case h_9 t x y e => -- store
    rw [e]
    simp only [oStore, Option.bind_eq_bind, Option.bind_eq_some_iff] at h
    obtain ⟨p, hp, h⟩ := h
    split at h
    · rename_i b o'
      simp only [Option.bind_eq_some_iff] at h
      obtain ⟨v, hv, h⟩ := h
      obtain ⟨h', hs, rfl⟩ := laid_some h
      have hx := r _ (by rw [e]; simp [Op.operands]) _ hp
      simp only [VRel] at hx
      obtain ⟨L, hL, hx⟩ := hx
      obtain ⟨w', hr, hH, hX⟩ := storeVar_rel (P := P) hE H hL (r _ (by rw [e]; simp [Op.operands]) _ hv) hs
      exact done_unit ⟨w', by simp only [Instr.storeAt, hx, Instr.sureAddr, Sem.run_bind, Sem.run_pure, Result.andThen_ok]; exact hr, hH, hX⟩
    · cases h
  case h_10 x e => -- nilCheck
    rw [e]
    simp only [oNilCheck, Option.bind_eq_bind, Option.bind_eq_some_iff] at h
    obtain ⟨v, hv, h⟩ := h
    have hx := r _ (by rw [e]; simp [Op.operands]) _ hv
    split at h
    · cases h
      rename_i p
      have hx' := hx
      simp only [VRel] at hx
      obtain ⟨L, hL, hx⟩ := hx
      refine ⟨rfl, rfl, rfl, φ, .value (a.eval x), w, by simp [hx], .inl ⟨_, rfl, hx'⟩, H, .refl ..⟩
    · cases h
      have hx' := hx
      simp only [VRel] at hx
      obtain ⟨p, q, hx, _⟩ := hx
      refine ⟨rfl, rfl, rfl, φ, .value (a.eval x), w, by simp [hx], .inl ⟨_, rfl, hx'⟩, H, .refl ..⟩
    · cases h
  case h_11 op t x y _ e => -- binOp
    rw [e]
    simp only [oBinOp, Option.bind_eq_bind, Option.bind_eq_some_iff] at h
    obtain ⟨u, hu, v, hv, h⟩ := h
    obtain ⟨z, hz, rfl⟩ := valR_some h
    exact done_pure H (binV_rel hE (r _ (by rw [e]; simp [Op.operands]) _ hu) (r _ (by rw [e]; simp [Op.operands]) _ hv) hz)
  case h_12 op _ x e => -- unOp
    rw [e]
    simp only [oUnOp, Option.bind_eq_bind, Option.bind_eq_some_iff] at h
    obtain ⟨v, hv, h⟩ := h
    obtain ⟨z, hz, rfl⟩ := valR_some h
    exact done_pure H (unV_rel (r _ (by rw [e]; simp [Op.operands]) _ hv) hz)
  case h_13 src dst x e => -- convert
    rw [e]
    simp only [oConvert, Option.bind_eq_bind, Option.bind_eq_some_iff] at h
    obtain ⟨s, hs, d, hd, v, hv, h⟩ := h
    have hx := r _ (by rw [e]; simp [Op.operands]) _ hv
    have hus := run_under hE hs (P := P)
    have hud := run_under hE hd (P := P)
    split at h
    · rename_i el base n cap h1 h2
      rw [h1] at hus
      rw [h2] at hud
      simp only [Option.bind_eq_some_iff] at h
      obtain ⟨te, hte, h⟩ := h
      split at h
      · rename_i h3
        have hue := run_under hE hte (P := P)
        rw [h3] at hue
        simp only [Option.bind_eq_some_iff] at h
        obtain ⟨cs, hcs, h⟩ := h
        obtain ⟨z, hz, rfl⟩ := valR_some h
        simp only [Option.map_eq_some_iff] at hz
        obtain ⟨bs, hbs, rfl⟩ := hz
        obtain ⟨z, hz, hzr⟩ := toString_rel (P := P) H hx hcs hbs
        refine done_pure H ⟨z, ?_, hzr⟩
        have : ∃ b c, a.eval x = .slice b n c := by
          simp only [VRel] at hx; unfold SlRel at hx
          split at hx
          · exact ⟨_, _, hx.1⟩
          · cases hx
          · obtain ⟨_, _, _, hx, _⟩ := hx; exact ⟨_, _, hx⟩
          · obtain ⟨_, _, _, _, hx, _⟩ := hx; exact ⟨_, _, hx⟩
        obtain ⟨b, c, hb⟩ := this
        rw [hb] at hz ⊢
        simp [convert, hus, hud, hue, hz]
      · cases h
    · rename_i el bs h1 h2
      rw [h1] at hus
      rw [h2] at hud
      simp only [Option.bind_eq_some_iff] at h
      obtain ⟨te, hte, h⟩ := h
      split at h
      · rename_i h3
        have hue := run_under hE hte (P := P)
        rw [h3] at hue
        split at h
        · obtain ⟨h', hs', rfl⟩ := laid_some h
          obtain ⟨b, hb, g⟩ := toBytes_rel (P := P) H hte hx hs'
          obtain ⟨φ', z, w', hr, g⟩ := g
          have : Gives P E φ st.hp w (convert src dst (a.eval x)) (.slice (some (st.hp.next, 0)) bs.length (.room 1)) h' := ⟨φ', z, w', by rw [hb]; simp [convert, hus, hud, hue, hr], g⟩
          exact this.done
        · cases h
      · cases h
    · obtain ⟨z, hz, rfl⟩ := valR_some h
      exact done_pure H (convV_rel hE hs hd hx hz)
  case h_14 t x e => -- makeInterface
    rw [e]
    simp only [oMakeInterface, Option.bind_eq_bind, Option.bind_eq_some_iff] at h
    obtain ⟨ty, hty, v, hv, h⟩ := h
    have hu := run_under hE hty (P := P)
    split at h
    · cases h
    · rename_i hni
      cases h
      refine done_pure H ⟨.iface t (a.eval x), ?_, by simp only [VRel]; exact ⟨_, rfl, r _ (by rw [e]; simp [Op.operands]) _ hv⟩⟩
      simp only [Instr.makeInterface, Sem.run_bind, hu, Result.andThen_ok]
      cases hd : ty.d <;> first | (exact absurd hd (hni _)) | rfl
  case h_15 fn first captured e => -- makeFunc
    rw [e]
    simp only [oMakeFunc, Option.bind_eq_bind, Option.bind_eq_some_iff] at h
    obtain ⟨xs, hxs, ys, hys, h⟩ := h
    split at h
    · cases h
      exact done_pure H ⟨_, rfl, by simp only [VRel]; exact ⟨_, _, rfl, args_rel r (by intro y hy; rw [e]; simp [Op.operands, hy]) hxs, args_rel r (by intro y hy; rw [e]; simp [Op.operands, hy]) hys⟩⟩
    · cases h
  case h_16 t q e => -- makeMap
    rw [e]
    simp only [oMakeMap, Option.bind_eq_bind, Option.bind_eq_some_iff] at h
    obtain ⟨ty, hty, v, hv, h⟩ := h
    have hq := r.evO (by intro y hy; rw [e, hy]; simp [Op.operands]) hv
    split at h
    · rename_i hd
      cases h
      exact (makeMap_rel (P := P) hE H hty hd hq (by intro x hx; cases hx)).done
    · rename_i hd
      cases h
      exact (makeMap_rel (P := P) hE H hty hd hq (by intro x hx; cases hx; exact ⟨_, _, rfl⟩)).done
    · cases h
  case h_17 t l c e => -- makeSlice
    rw [e]
    simp only [oMakeSlice, Option.bind_eq_bind, Option.bind_eq_some_iff] at h
    obtain ⟨ty, hty, v, hv, h⟩ := h
    split at h
    · simp only [Option.bind_eq_some_iff] at h
      obtain ⟨u, hu, h⟩ := h
      split at h
      · split at h
        · rename_i el hd
          simp only [Option.bind_eq_some_iff] at h
          obtain ⟨te, hte, z, hz, h⟩ := h
          split at h
          · rename_i hc
            obtain ⟨h', hs, rfl⟩ := laid_some h
            have hl := r _ (by rw [e]; simp [Op.operands]) _ hv
            have hc' := r _ (by rw [e]; simp [Op.operands]) _ hu
            simp only [VRel] at hl hc'
            have g := makeSlice_rel (P := P) (t := t) hE H hty hd hte hz hc.1 hc.2 hs
            rw [← hl, ← hc'] at g
            exact g.done
          · cases h
        · cases h
      · cases h
    · cases h
  case h_18 t x lo hi mx e => -- slice
    rw [e]
    simp only [oSlice, Option.bind_eq_bind, Option.bind_eq_some_iff] at h
    obtain ⟨v, hv, lo', hlo, hi', hhi, mx', hmx, h⟩ := h
    obtain ⟨z, hz, rfl⟩ := valR_some h
    exact done_pure H (sliceV_rel hE (r _ (by rw [e]; simp [Op.operands]) _ hv) (r.evO (by intro y hy; rw [e, hy]; simp [Op.operands]) hlo) (r.evO (by intro y hy; rw [e, hy]; simp [Op.operands]) hhi) (r.evO (by intro y hy; rw [e, hy]; simp [Op.operands]) hmx) hz)
  case h_19 s x f e => -- fieldAddr
    rw [e]
    simp only [oFieldAddr, Option.bind_eq_bind, Option.bind_eq_some_iff] at h
    obtain ⟨v, hv, h⟩ := h
    obtain ⟨z, hz, rfl⟩ := valR_some h
    exact done_pure H (fieldA_rel hE (r _ (by rw [e]; simp [Op.operands]) _ hv) hz)
  case h_20 t x f e => -- field
    rw [e]
    simp only [oField, Option.bind_eq_bind, Option.bind_eq_some_iff] at h
    obtain ⟨v, hv, h⟩ := h
    obtain ⟨z, hz, rfl⟩ := valR_some h
    exact done_pure H (fieldV_rel hE (r _ (by rw [e]; simp [Op.operands]) _ hv) hz)
  case h_21 t x i e => -- indexAddr
    rw [e]
    simp only [oIndexAddr, Option.bind_eq_bind, Option.bind_eq_some_iff] at h
    obtain ⟨v, hv, i', hi, h⟩ := h
    obtain ⟨z, hz, rfl⟩ := valR_some h
    exact done_pure H (indexA_rel hE (r _ (by rw [e]; simp [Op.operands]) _ hv) (r _ (by rw [e]; simp [Op.operands]) _ hi) hz)
  case h_22 t x i e => -- index
    rw [e]
    simp only [oIndex, Option.bind_eq_bind, Option.bind_eq_some_iff] at h
    obtain ⟨v, hv, i', hi, h⟩ := h
    obtain ⟨z, hz, rfl⟩ := valR_some h
    exact done_pure H (indexV_rel hE (r _ (by rw [e]; simp [Op.operands]) _ hv) (r _ (by rw [e]; simp [Op.operands]) _ hi) hz)
  case h_23 t m k ok e => -- lookup
    rw [e]
    simp only [oLookup, Option.bind_eq_bind, Option.bind_eq_some_iff] at h
    obtain ⟨ty, hty, v, hv, h⟩ := h
    split at h
    · simp only [Option.bind_eq_some_iff] at h
      obtain ⟨kv, hk, h⟩ := h
      split at h
      · rename_i hd
        split at h
        · rename_i hkey
          simp only [Option.bind_eq_some_iff] at h
          obtain ⟨es, hes, te, hte, f, hf, h⟩ := h
          split at h
          · cases h
            exact done_pure H (lookup_rel (P := P) hE H hty hd (r _ (by rw [e]; simp [Op.operands]) _ hv) (r _ (by rw [e]; simp [Op.operands]) _ hk) hkey hes hte hf ok (.inl ⟨_, rfl, rfl⟩))
          · simp only [Option.bind_eq_some_iff, Option.some.injEq] at h
            obtain ⟨z, hz, rfl⟩ := h
            exact done_pure H (lookup_rel (P := P) hE H hty hd (r _ (by rw [e]; simp [Op.operands]) _ hv) (r _ (by rw [e]; simp [Op.operands]) _ hk) hkey hes hte hf ok (.inr ⟨rfl, _, hz, rfl⟩))
        · cases h
      · cases h
    · cases h
  case h_24 t m k x e => -- mapUpdate
    rw [e]
    simp only [oMapUpdate, Option.bind_eq_bind, Option.bind_eq_some_iff] at h
    obtain ⟨ty, hty, v, hv, h⟩ := h
    split at h
    · simp only [Option.bind_eq_some_iff] at h
      obtain ⟨kv, hk, xv, hx, bk, hb, h⟩ := h
      split at h
      · split at h
        · rename_i hd
          split at h
          · rename_i hkey
            simp only [Option.bind_eq_some_iff] at h
            obtain ⟨f, hf, h⟩ := h
            split at h
            · simp only [Option.bind_eq_some_iff] at h
              obtain ⟨en, hen, h⟩ := h
              split at h
              · rename_i heq
                cases h
                exact done_unit (mapUpdate_rel (P := P) hE H hty hd (r _ (by rw [e]; simp [Op.operands]) _ hv) (r _ (by rw [e]; simp [Op.operands]) _ hk) (r _ (by rw [e]; simp [Op.operands]) _ hx) hkey hb hf (.inl ⟨_, _, rfl, hen, heq, rfl⟩))
              · cases h
            · cases h
              exact done_unit (mapUpdate_rel (P := P) hE H hty hd (r _ (by rw [e]; simp [Op.operands]) _ hv) (r _ (by rw [e]; simp [Op.operands]) _ hk) (r _ (by rw [e]; simp [Op.operands]) _ hx) hkey hb hf (.inr ⟨rfl, rfl⟩))
          · cases h
        · cases h
      · cases h
    · cases h
  case h_25 t m k e => -- mapEntry
    rw [e]
    simp only [oMapEntry, Option.bind_eq_bind, Option.bind_eq_some_iff] at h
    obtain ⟨ty, hty, v, hv, h⟩ := h
    split at h
    · simp only [Option.bind_eq_some_iff] at h
      obtain ⟨kv, hk, bk, hb, h⟩ := h
      split at h
      · split at h
        · rename_i hd
          split at h
          · rename_i hkey
            simp only [Option.bind_eq_some_iff] at h
            obtain ⟨f, hf, h⟩ := h
            split at h
            · simp only [Option.bind_eq_some_iff] at h
              obtain ⟨en, hen, h⟩ := h
              split at h
              · rename_i heq
                cases h
                exact (mapEntry_rel (P := P) hE H hty hd (r _ (by rw [e]; simp [Op.operands]) _ hv) (r _ (by rw [e]; simp [Op.operands]) _ hk) hkey hb hf (.inl ⟨_, _, rfl, hen, heq, rfl, rfl⟩)).done
              · cases h
            · simp only [Option.bind_eq_some_iff, Option.some.injEq] at h
              obtain ⟨te, hte, z, hz, rfl⟩ := h
              exact (mapEntry_rel (P := P) hE H hty hd (r _ (by rw [e]; simp [Op.operands]) _ hv) (r _ (by rw [e]; simp [Op.operands]) _ hk) hkey hb hf (.inr ⟨rfl, te, z, hte, hz, rfl, rfl⟩)).done
          · cases h
        · cases h
      · cases h
    · cases h
  case h_26 t m s x e => -- entryStore
    rw [e]
    simp only [oEntryStore, Option.bind_eq_bind, Option.bind_eq_some_iff] at h
    obtain ⟨v, hv, h⟩ := h
    split at h
    · simp only [Option.bind_eq_some_iff] at h
      obtain ⟨sv, hs, h⟩ := h
      split at h
      · simp only [Option.bind_eq_some_iff] at h
        obtain ⟨xv, hx, bk, hb, h⟩ := h
        split at h
        · simp only [Option.bind_eq_some_iff, Option.some.injEq] at h
          obtain ⟨i, hi, rfl⟩ := h
          exact done_unit (entryStore_rel (P := P) H (r _ (by rw [e]; simp [Op.operands]) _ hv) (r _ (by rw [e]; simp [Op.operands]) _ hs) (r _ (by rw [e]; simp [Op.operands]) _ hx) hb hi t)
        · cases h
      · cases h
    · cases h
  case h_27 t x e => -- range
    rw [e]
    simp only [oRange, Option.bind_eq_bind, Option.bind_eq_some_iff] at h
    obtain ⟨ty, hty, v, hv, h⟩ := h
    split at h
    · split at h
      · rename_i hd
        cases h
        exact (range_rel (P := P) hE H hty hd (r _ (by rw [e]; simp [Op.operands]) _ hv)).done
      · cases h
    · cases h
  case h_28 it isS e => -- next
    rw [e]
    simp only [oNext] at h
    split at h
    · rename_i hS
      subst hS
      simp only [Option.bind_eq_bind, Option.bind_eq_some_iff] at h
      obtain ⟨v, hv, h⟩ := h
      split at h
      · simp only [Option.bind_eq_some_iff] at h
        obtain ⟨bk, hb, h⟩ := h
        split at h
        · have hn := next_rel (P := P) H (r _ (by rw [e]; simp [Op.operands]) _ hv) hb o.type
          split at h
          · cases h
            exact (hn.1 rfl).done
          · cases h
            exact (hn.2 (by simp)).done
        · cases h
      · cases h
    · cases h
  case h_29 x xt asserted ok e => -- typeAssert
    rw [e]
    exact typeAssert_done (P := P) hE H (r _ (by rw [e]; simp [Op.operands])) h
  case h_30 x i e => -- extract
    rw [e]
    simp only [oExtract, Option.bind_eq_bind, Option.bind_eq_some_iff] at h
    obtain ⟨v, hv, h⟩ := h
    split at h
    · obtain ⟨z, hz, rfl⟩ := valR_some h
      have hx := r _ (by rw [e]; simp [Op.operands]) _ hv
      simp only [VRel] at hx
      obtain ⟨cs, hx, hcs⟩ := hx
      obtain ⟨y, hy, hyr⟩ := hcs.get hz
      refine done_pure H ⟨y, ?_, hyr⟩
      rw [hx]
      have : cs[i]? = some y := by simpa using hy
      simp [Instr.extract, this]
    · cases h
  case h_31 c e => -- call
    obtain ⟨b, hb, hbr⟩ := hnc c e
    rw [e]
    simp only [oCall, hb, Option.bind_eq_bind, Option.bind_eq_some_iff] at h
    obtain ⟨vs, hvs, h⟩ := h
    have := builtin_done (P := P) hE H hbr (args_rel r (by intro y hy; rw [e]; simp [Op.operands, Call.operands, hy]) hvs) h o.type (c.args.map fun | .const _ => true | _ => false)
    simp only [resolve, hb]
    exact this
  case h_32 c e => exact absurd e (hnd c)
  case h_33 x e => -- panic
    rw [e]
    simp only [oPanic, Option.bind_eq_bind, Option.bind_eq_some_iff] at h
    obtain ⟨v, hv, h⟩ := h
    split at h
    · cases h
      have hx := r _ (by rw [e]; simp [Op.operands]) _ hv
      have hx' := hx
      simp only [VRel] at hx
      obtain ⟨y, hx, _⟩ := hx
      refine ⟨rfl, rfl, rfl, φ, _, _, w, rfl, ?_, hx', H, .refl ..⟩
      simp [hx, Instr.panic]
    · cases h
  case h_34 => cases h
end
end Go.Av

/- The machine beside the evaluator: what stands to what; steps of the machine that the kit has no law for. -/
namespace Go.Av
section
variable {P : Program} {E : Env} {φ ψ : Phi} {w : World}

def ChRel (φ : Phi) : Chain → List PanicEntry → Prop
  | [], l => l = []
  | e :: c, l => ∃ x ys, l = { v := x, recovered := e.2 } :: ys ∧ VRel φ e.1 x ∧ ChRel φ c ys
theorem ChRel.mono (h : φ.le ψ) : ∀ {c : Chain} {l : List PanicEntry}, ChRel φ c l → ChRel ψ c l
  | [], _, r => r
  | _ :: _, _, r => by obtain ⟨x, ys, h1, h2, h3⟩ := r; exact ⟨x, ys, h1, h2.mono h, h3.mono h⟩
theorem ChRel.append : ∀ {c d : Chain} {l m : List PanicEntry}, ChRel φ c l → ChRel φ d m → ChRel φ (c ++ d) (l ++ m)
  | [], d, l, m, h, k => by simp only [ChRel] at h; subst h; exact k
  | e :: c, d, l, m, h, k => by obtain ⟨x, ys, rfl, h2, h3⟩ := h; exact ⟨x, ys ++ m, rfl, h2, h3.append k⟩
theorem ChRel.plain : ∀ {c : Chain} {l : List PanicEntry}, ChRel φ c l → l.dropWhile (!·.goexit) = []
  | [], _, h => by simp only [ChRel] at h; subst h; rfl
  | e :: c, _, h => by obtain ⟨x, ys, rfl, _, h3⟩ := h; simp [h3.plain]

def MdRel (φ : Phi) : Md → FrameMode → Prop
  | .returning, m => m = .returning
  | .panicking c, m => ∃ l, m = .panicking l ∧ ChRel φ c l
theorem MdRel.mono (h : φ.le ψ) {m : Md} {u : FrameMode} (r : MdRel φ m u) : MdRel ψ m u := by
  cases m with
  | returning => exact r
  | panicking c => obtain ⟨l, h1, h2⟩ := r; exact ⟨l, h1, h2.mono h⟩
theorem MdRel.ne {m : Md} {u : FrameMode} (r : MdRel φ m u) : u ≠ .run := by
  cases m with
  | returning => simp only [MdRel] at r; simp [r]
  | panicking c => obtain ⟨l, h1, h2⟩ := r; simp [h1]
theorem MdRel.settle {m : Md} {u : FrameMode} (r : MdRel φ m u) : MdRel φ (Av.settle m) (Go.settle u) := by
  cases m with
  | returning => simp only [MdRel] at r; subst r; exact rfl
  | panicking c =>
    obtain ⟨l, rfl, h⟩ := r
    cases c with
    | nil => simp only [ChRel] at h; subst h; exact ⟨[], rfl, rfl⟩
    | cons e c =>
      obtain ⟨x, ys, rfl, h2, h3⟩ := h
      obtain ⟨v, rec⟩ := e
      cases rec with
      | true => simp only [Av.settle, Go.settle, h3.plain, MdRel]
      | false => exact ⟨_, rfl, x, ys, rfl, h2, h3⟩
theorem MdRel.raised {m : Md} {u : FrameMode} (r : MdRel φ m u) {c : Chain} {l : List PanicEntry} (hc : ChRel φ c l) : MdRel φ (Av.raised m c) (Go.raised u l) := by
  cases m with
  | returning => simp only [MdRel] at r; subst r; exact ⟨l, rfl, hc⟩
  | panicking d => obtain ⟨k, rfl, h⟩ := r; exact ⟨l ++ k, rfl, hc.append h⟩

def DRel (φ : Phi) : List AD → List Deferred → Prop
  | [], l => l = []
  | .call f args cap :: ds, l => ∃ a c ys, l = { target := .fn (.func f) c, args := a } :: ys ∧ VRels φ args a.toList ∧ VRels φ cap c.toList ∧ DRel φ ds ys
  | .mark b :: ds, l => ∃ L ys, l = { target := .collected L.b, args := #[] } :: ys ∧ φ b = some L ∧ DRel φ ds ys
theorem DRel.mono (h : φ.le ψ) : ∀ {d : List AD} {l : List Deferred}, DRel φ d l → DRel ψ d l
  | [], _, r => r
  | .call .. :: _, _, r => by obtain ⟨a, c, ys, h1, h2, h3, h4⟩ := r; exact ⟨a, c, ys, h1, h2.mono h, h3.mono h, h4.mono h⟩
  | .mark _ :: _, _, r => by obtain ⟨L, ys, h1, h2, h3⟩ := r; exact ⟨L, ys, h1, h _ _ h2, h3.mono h⟩

/-- How far the caller's state is known: a deferred call's caller's mode. -/
def URel (φ : Phi) (kind : CallKind) (cs₀ cs : List Frame) : Option Md → Prop
  | none => kind = .normal ∧ cs = cs₀
  | some m => kind = .deferred ∧ ∃ c₀ rest u, cs₀ = c₀ :: rest ∧ cs = { c₀ with mode := u } :: rest ∧ MdRel φ m u
theorem URel.mono (h : φ.le ψ) {kind : CallKind} {cs₀ cs : List Frame} {u : Option Md} (r : URel φ kind cs₀ cs u) : URel ψ kind cs₀ cs u := by
  cases u with
  | none => exact r
  | some m => obtain ⟨h1, c, rest, u, h2, h3, h4⟩ := r; exact ⟨h1, c, rest, u, h2, h3, h4.mono h⟩

def RRel (φ : Phi) : Option Nat → Option Nat → Prop
  | none, r => r = none
  | some l, r => ∃ L, φ l = some L ∧ r = some L.b
theorem RRel.mono (h : φ.le ψ) {a b : Option Nat} (r : RRel φ a b) : RRel ψ a b := by
  cases a with
  | none => exact r
  | some l => obtain ⟨L, h1, h2⟩ := r; exact ⟨L, h _ _ h1, h2⟩
structure XRel (φ : Phi) (cx : Cx) (b : Frame) : Prop where
  fn : b.fn = cx.fn
  round : RRel φ cx.round b.roundOf
theorem XRel.mono (h : φ.le ψ) {cx : Cx} {b : Frame} (r : XRel φ cx b) : XRel ψ cx b := ⟨r.fn, r.round.mono h⟩

/-- The states beside each other. -/
structure SRel (E : Env) (φ : Phi) (cx : Cx) (kind : CallKind) (cs₀ : List Frame) (s : St) (a : Act) (cs : List Frame) (w : World) : Prop where
  tm : TRel φ s.tm cx.nt a.tmps
  df : DRel φ s.df a.defers
  up : URel φ kind cs₀ cs s.up
  hp : HRel E φ s.hp w
/-- Where the machine stands when code has been left. -/
def Goes (P : Program) (φ : Phi) (m : Machine) (b : Frame) (k : List Item) (a : Act) (cs : List Frame) (w : World) : Ex → Prop
  | .normal => Steps P m (lone (b.atR a k) cs w)
  | .exit id => ∃ k1, exitTo id k1 = exitTo id k ∧ Steps P m (lone (b.atR a (.code (.exit id) :: k1)) cs w)
  | .goto l => ∃ k1, gotoIn l k1 = gotoIn l k ∧ Steps P m (lone (b.atR a (.code (.goto l) :: k1)) cs w)
  | .ret => ∃ k1, Steps P m (lone (b.atR a (.code .ret :: k1)) cs w)
  | .panic c => ∃ todo l, ChRel φ c l ∧ Steps P m (lone { b.atR a todo with mode := .panicking l } cs w)
theorem Goes.of_steps {m m₁ : Machine} {b : Frame} {k : List Item} {a : Act} {cs : List Frame} {ex : Ex} (h : Steps P m m₁) (g : Goes P φ m₁ b k a cs w ex) : Goes P φ m b k a cs w ex := by
  cases ex with
  | normal => exact h.trans g
  | exit id => obtain ⟨k1, h1, h2⟩ := g; exact ⟨k1, h1, h.trans h2⟩
  | goto l => obtain ⟨k1, h1, h2⟩ := g; exact ⟨k1, h1, h.trans h2⟩
  | ret => obtain ⟨k1, h2⟩ := g; exact ⟨k1, h.trans h2⟩
  | panic c => obtain ⟨todo, l, h1, h2⟩ := g; exact ⟨todo, l, h1, h.trans h2⟩
/-- What code comes to, on both sides. -/
def After (P : Program) (E : Env) (φ : Phi) (h : Heap) (w : World) (cx : Cx) (b : Frame) (cs₀ : List Frame) (m : Machine) (k : List Item) (ex : Ex) (s' : St) : Prop :=
  ∃ φ' a' cs' w', Goes P φ' m b k a' cs' w' ex ∧ (((∃ c, ex = .panic c) ∧ s'.df = []) ∨ TRel φ' s'.tm cx.nt a'.tmps) ∧ DRel φ' s'.df a'.defers ∧ URel φ' b.kind cs₀ cs' s'.up ∧ HRel E φ' s'.hp w' ∧ Ext φ h w φ' s'.hp w'
theorem After.of_steps {h h₁ : Heap} {w₁ : World} {φ₁ : Phi} {cx : Cx} {b : Frame} {cs₀ : List Frame} {m m₁ : Machine} {k : List Item} {ex : Ex} {s' : St} (H : HRel E φ h w) (X : Ext φ h w φ₁ h₁ w₁) (hs : Steps P m m₁)
    (g : After P E φ₁ h₁ w₁ cx b cs₀ m₁ k ex s') : After P E φ h w cx b cs₀ m k ex s' := by
  obtain ⟨φ', a', cs', w', g1, g2, g3, g4, g5, g6⟩ := g
  exact ⟨φ', a', cs', w', g1.of_steps hs, g2, g3, g4, g5, Ext.trans H X g6⟩
theorem After.normal {h : Heap} {cx : Cx} {b : Frame} {cs₀ : List Frame} {m : Machine} {k : List Item} {s' : St} (g : After P E φ h w cx b cs₀ m k .normal s') :
    ∃ φ' a' cs' w', Steps P m (lone (b.atR a' k) cs' w') ∧ SRel E φ' cx b.kind cs₀ s' a' cs' w' ∧ Ext φ h w φ' s'.hp w' := by
  obtain ⟨φ', a', cs', w', g1, g2, g3, g4, g5, g6⟩ := g
  refine ⟨φ', a', cs', w', g1, ⟨g2.resolve_left ?_, g3, g4, g5⟩, g6⟩
  rintro ⟨⟨c, hc⟩, _⟩
  cases hc

def CodeOk (P : Program) (E : Env) (R : Rec) : Prop := ∀ cx c s ex s', R.code cx c s = some (ex, s') → ∀ φ b a cs₀ cs w k, XRel φ cx b → SRel E φ cx b.kind cs₀ s a cs w →
  After P E φ s.hp w cx b cs₀ (lone (b.atR a (.code c :: k)) cs w) k ex s'
def ScopeOk (P : Program) (E : Env) (R : Rec) : Prop := ∀ cx B c s ex s', R.scope cx B c s = some (ex, s') → ∀ φ b a cs₀ cs w k, XRel φ cx b → SRel E φ cx b.kind cs₀ s a cs w →
  After P E φ s.hp w cx b cs₀ (lone (b.atR a (.code c :: .inScope B :: k)) cs w) k ex s'
/-- A frame that is about to go, beside what the evaluator has. -/
def Gone (P : Program) (φ : Phi) (fr : Frame) (f : FuncId) (kind : CallKind) (w : World) : Rs → Prop
  | .ret v _ _ => fr.fn = f ∧ fr.kind = kind ∧ fr.mode = .returning ∧ fr.defers = [] ∧ ∃ fn x, P.funcs[fr.fn]? = some fn ∧ (results fn fr.tmps).run P w = .ok x w ∧ VRel φ v x
  | .pan c _ _ => fr.fn = f ∧ fr.kind = kind ∧ fr.defers = [] ∧ (∃ fn, P.funcs[fr.fn]? = some fn) ∧ ∃ l, fr.mode = .panicking l ∧ ChRel φ c l
def Rs.up : Rs → Option Md
  | .ret _ u _ => u
  | .pan _ u _ => u
def Rs.hp : Rs → Heap
  | .ret _ _ h => h
  | .pan _ _ h => h
/-- A whole activation, on both sides. -/
def Whole (P : Program) (E : Env) (φ : Phi) (h : Heap) (w : World) (f : FuncId) (kind : CallKind) (cs₀ : List Frame) (m : Machine) (r : Rs) : Prop :=
  ∃ φ' fr cs' w', Steps P m (lone fr cs' w') ∧ Gone P φ' fr f kind w' r ∧ URel φ' kind cs₀ cs' r.up ∧ HRel E φ' r.hp w' ∧ Ext φ h w φ' r.hp w'
theorem Whole.of_steps {h h₁ : Heap} {w₁ : World} {φ₁ : Phi} {f : FuncId} {kind : CallKind} {cs₀ : List Frame} {m m₁ : Machine} {r : Rs} (H : HRel E φ h w) (X : Ext φ h w φ₁ h₁ w₁) (hs : Steps P m m₁)
    (g : Whole P E φ₁ h₁ w₁ f kind cs₀ m₁ r) : Whole P E φ h w f kind cs₀ m r := by
  obtain ⟨φ', fr, cs', w', g1, g2, g3, g4, g5⟩ := g
  exact ⟨φ', fr, cs', w', hs.trans g1, g2, g3, g4, Ext.trans H X g5⟩
def CallOk (P : Program) (E : Env) (R : Rec) : Prop := ∀ f args up h r, R.call f args up h = some r → ∀ φ kind cs₀ cs w args', VRels φ args args'.toList → URel φ kind cs₀ cs up → HRel E φ h w →
  Whole P E φ h w f kind cs₀ (lone (Frame.enter P f args' kind) cs w) r
def LeaveOk (P : Program) (E : Env) (R : Rec) : Prop := ∀ fn s m r, R.leave fn s m = some r → ∀ φ fr f kind cs₀ cs w, P.funcs[f]? = some fn → fr.fn = f → fr.kind = kind → MdRel φ m fr.mode →
  (((∃ c, m = .panicking c) ∧ s.df = []) ∨ TRel φ s.tm fn.ntmps fr.tmps) → DRel φ s.df fr.defers → URel φ kind cs₀ cs s.up → HRel E φ s.hp w → Whole P E φ s.hp w f kind cs₀ (lone fr cs w) r
def LoopOk (P : Program) (E : Env) (R : Rec) : Prop := ∀ cx x s ex s', R.code cx (.loop x) s = some (ex, s') → ∀ φ b a cs₀ cs w k, XRel φ cx b → SRel E φ cx b.kind cs₀ s a cs w →
  After P E φ s.hp w cx b cs₀ (lone (b.atR a (.inLoop x :: k)) cs w) k ex s'
structure AllOk (P : Program) (E : Env) (R : Rec) : Prop where
  code : CodeOk P E R
  scope : ScopeOk P E R
  call : CallOk P E R
  leave : LeaveOk P E R
  has : ∀ f args up h r, R.call f args up h = some r → ∃ fn, E.fn.get f = some fn ∧ fn.body.isSome = true
  loop : LoopOk P E R
theorem rec0_ok : AllOk P E rec0 := by
  constructor
  · intro cx c s ex s' h; cases h
  · intro cx B c s ex s' h; cases h
  · intro f args up h r hh; cases hh
  · intro fn s m r h; cases h
  · intro f args up h r hh; cases hh
  · intro cx x s ex s' h; cases h

/-! ### A call of code, and leaving -/
theorem results_rel (hE : E.Ok P) {s : St} {nt : Nat} {tmps : Array Value} (r : TRel φ s.tm nt tmps) (H : HRel E φ s.hp w) : ∀ {rs : List ResultVar} {vs : List AV}, resultsV E s rs = some vs →
    ∃ xs, (rs.mapM (fun | .tmp t => pure (tmps.getD t Go.undef) | .cell a t => do Go.loadVar t (← asAddr (tmps.getD a Go.undef)) : ResultVar → Sem Value)).run P w = .ok xs w ∧ VRels φ vs xs := by
  intro rs
  induction rs with
  | nil => intro vs h; simp only [resultsV, Option.some.injEq] at h; subst h; exact ⟨[], rfl, .nil⟩
  | cons q rs ih =>
    intro vs h
    simp only [resultsV, Option.bind_eq_bind, Option.bind_eq_some_iff] at h
    obtain ⟨v, hv, ws, hws, h⟩ := h
    cases h
    obtain ⟨xs, hxs, hr⟩ := ih hws
    cases q with
    | tmp t =>
      refine ⟨tmps.getD t Go.undef :: xs, ?_, .cons (r.get t v hv).2 hr⟩
      simp only [List.mapM_cons, Sem.run_bind, Sem.run_pure, Result.andThen_ok, hxs]
    | cell a t =>
      simp only [Option.bind_eq_some_iff] at hv
      obtain ⟨p, hp, hv⟩ := hv
      split at hv
      · rename_i b o
        have hx := (r.get a _ hp).2
        simp only [VRel] at hx
        obtain ⟨L, hL, hx⟩ := hx
        obtain ⟨y, hy, hyr⟩ := loadVar_rel (P := P) hE H hL hv
        have ha : (asAddr (tmps.getD a Go.undef)).run P w = .ok ⟨L.b, L.s + o, none⟩ w := by rw [hx]; rfl
        refine ⟨y :: xs, ?_, .cons hyr hr⟩
        simp only [List.mapM_cons, Sem.run_bind, Sem.run_pure, Result.andThen_ok, ha, hy, hxs]
      · cases hv
theorem doneResults (hE : E.Ok P) {s : St} {fn : Func} {nt : Nat} {tmps : Array Value} (r : TRel φ s.tm nt tmps) (H : HRel E φ s.hp w) {vs : List AV} (h : resultsV E s fn.results.toList = some vs) :
    ∃ x, (results fn tmps).run P w = .ok x w ∧ VRel φ (resV vs) x := by
  obtain ⟨xs, hxs, hr⟩ := results_rel (P := P) hE r H h
  have hm : (results fn tmps).run P w = .ok (if h : xs.toArray.size = 1 then xs.toArray[0] else .tuple xs.toArray) w := by
    unfold results
    rw [Array.mapM_eq_mapM_toList]
    simp only [Sem.run_bind, Sem.run_map, Sem.run_pure]
    erw [hxs]
    rfl
  refine ⟨_, hm, ?_⟩
  unfold resV
  split
  · obtain ⟨y, ys, rfl, hy, hys⟩ := by simpa only [VRels] using hr
    subst hys
    simpa using hy
  · rename_i hne
    rw [dif_neg]
    · simp only [VRel]; exact ⟨_, rfl, by simpa using hr⟩
    · intro h1
      simp only [List.size_toArray] at h1
      rw [← hr.length] at h1
      obtain ⟨v, hv⟩ := List.length_eq_one_iff.1 h1
      exact hne v hv
end
end Go.Av

/- The machine beside the evaluator: leaving an activation, calling one. -/
namespace Go.Av
section
variable {P : Program} {E : Env} {φ ψ : Phi} {h : Heap} {w : World}

/-- A mark among the deferred calls: what the loop's rounds have put off is taken: nothing. -/
theorem step_mark {fr : Frame} {cs : List Frame} {b : Nat} {ds : List Deferred} {w' : World} (hm : fr.mode ≠ .run) (hd : fr.defers = { target := .collected b, args := #[] } :: ds)
    (ht : (Instr.takeDeferred b).run P w = .ok [] w') : step P (lone fr cs w) = .next (lone { fr with defers := ds } cs w') := by
  refine step_lone_go ?_
  cases hmode : fr.mode with
  | run => exact absurd hmode hm
  | returning => simp [stepG, unwind, hmode, hd, Sem.runT_eq, ht, GStep.bare_after]
  | panicking chain => simp [stepG, unwind, hmode, hd, Sem.runT_eq, ht, GStep.bare_after]
theorem take_rel (H : HRel E φ h w) {b : Nat} {L : Loc} (hp : φ b = some L) (hb : h.b.get b = some .deferred) :
    ∃ w', (Instr.takeDeferred L.b).run P w = .ok [] w' ∧ HRel E φ ⟨h.b.set b .dead, h.next⟩ w' ∧ Ext φ h w φ ⟨h.b.set b .dead, h.next⟩ w' := by
  have hbl := H.blk b L hp
  rw [hb] at hbl
  have hbl : w.heap[L.b]? = some (.deferred (some [])) := hbl
  have := H.turn hp (by unfold Mod; rw [hb]; trivial) .dead (.deferred none) trivial
  refine ⟨_, ?_, this⟩
  have hg : (getObj L.b).run P w = .ok (.deferred (some [])) w := by simp only [getObj, Sem.run, hbl]
  have hs : (setObj L.b (.deferred none)).run P w = .ok () (setW w L.b (.deferred none)) := by simp only [setObj, Sem.run, hbl]; rfl
  simp only [Instr.takeDeferred, Sem.run_bind, hg, Result.andThen_ok, hs, Sem.run_pure]

theorem leave_ok (hE : E.Ok P) {R : Rec} (hR : AllOk P E R) : LeaveOk P E (stepR E R) := by
  intro fn s m r hl φ fr f kind cs₀ cs w hf hfr hk hm htm hd hu H
  have hl : leaveStep E R fn s m = some r := hl
  unfold leaveStep at hl
  split at hl
  · rename_i hdf
    rw [hdf] at hd
    have hd : fr.defers = [] := hd
    split at hl
    · -- it returns
      simp only [Option.bind_eq_bind, Option.bind_eq_some_iff] at hl
      obtain ⟨vs, hvs, hl⟩ := hl
      have htm := htm.resolve_left (by rintro ⟨⟨c, hc⟩, _⟩; cases hc)
      obtain ⟨x, hx, hxr⟩ := doneResults (P := P) hE htm H hvs
      cases hl
      exact ⟨φ, fr, cs, w, Steps.refl .., ⟨hfr, hk, hm, hd, fn, x, hfr ▸ hf, hx, hxr⟩, hu, H, .refl ..⟩
    · cases hl
      exact ⟨φ, fr, cs, w, Steps.refl .., ⟨hfr, hk, hd, ⟨fn, hfr ▸ hf⟩, hm⟩, hu, H, .refl ..⟩
  · rename_i b ds hdf
    simp only [Option.bind_eq_bind, Option.bind_eq_some_iff] at hl
    obtain ⟨bk, hbk, hl⟩ := hl
    split at hl
    · rw [hdf] at hd
      obtain ⟨L, ys, hd, hL, hds⟩ := hd
      obtain ⟨w', ht, hH, hX⟩ := take_rel (P := P) H hL hbk
      have hs := step_mark (cs := cs) hm.ne hd ht
      exact (hR.leave _ _ _ _ hl φ { fr with defers := ys } f kind cs₀ cs w' hf hfr hk hm (htm.imp (fun h => by rw [hdf] at h; cases h.2) id) hds hu hH).of_steps H hX (.one hs)
    · cases hl
  · rename_i g args cap ds hdf
    simp only [Option.bind_eq_bind, Option.bind_eq_some_iff] at hl
    obtain ⟨q, hq, hl⟩ := hl
    rw [hdf] at hd
    obtain ⟨a, c, ys, hd, hargs, hcap, hds⟩ := hd
    have htm := htm.resolve_left (by rintro ⟨_, h⟩; rw [hdf] at h; cases h)
    obtain ⟨gn, hgn, hgb⟩ := hR.has _ _ _ _ _ hq
    have hinv : (invoke (.fn (.func g) c) a).run P w = .ok (.enter g (a ++ c)) w := by
      have h1 := hE.fn g gn hgn
      have h2 := hE.name g gn hgn hgb
      cases hbd : gn.body with
      | none => rw [hbd] at hgb; cases hgb
      | some bd => simp [invoke, callFunc, h1, h2, hbd]
    have hs := step_defer (cs := cs) (fr := fr) (d := ⟨.fn (.func g) c, a⟩) hm.ne hd rfl hinv
    have hw := hR.call g (args ++ cap) (some m) s.hp q hq φ .deferred ({ fr with defers := ys } :: cs) ({ fr with defers := ys } :: cs) w (a ++ c) (by rw [Array.toList_append]; exact hargs.append hcap)
      ⟨rfl, _, _, fr.mode, rfl, rfl, hm⟩ H
    obtain ⟨φ', fr', cs', w', hst, hg, hu', hH, hX⟩ := hw
    cases q with
    | ret v up h' =>
      obtain ⟨_, hk', hmo, hde, fn', x, hfn', hx, _⟩ := hg
      cases up with
      | none => cases hl
      | some u =>
        obtain ⟨_, c₀, rest, u', hc, rfl, hmu⟩ := hu'
        cases hc
        have h2 := step_going_returned (P := P) (c := { { fr with defers := ys } with mode := u' }) (cs := cs) (w := w') (v := x) hk' ⟨hmo, hde, fn', hfn', hx⟩
        exact Whole.of_steps (h₁ := h') H hX (.head hs (hst.trans (.one h2))) (hR.leave _ _ _ _ hl φ' { { { fr with defers := ys } with mode := u' } with mode := Go.settle u' } f kind cs₀ cs w' hf hfr hk hmu.settle (.inr (htm.mono hX.le)) (hds.mono hX.le) (hu.mono hX.le) hH)
    | pan pc up h' =>
      obtain ⟨_, hk', hde, ⟨fn', hfn'⟩, l, hmo, hch⟩ := hg
      cases up with
      | none => cases hl
      | some u =>
        obtain ⟨_, c₀, rest, u', hc, rfl, hmu⟩ := hu'
        cases hc
        have h2 := step_going_panicked (P := P) (c := { { fr with defers := ys } with mode := u' }) (cs := cs) (w := w') (chain := l) (fr := fr') ⟨hmo, hde, fn', hfn'⟩
        exact Whole.of_steps (h₁ := h') H hX (.head hs (hst.trans (.one h2))) (hR.leave _ _ _ _ hl φ' { { { fr with defers := ys } with mode := u' } with mode := Go.raised u' l } f kind cs₀ cs w' hf hfr hk (hmu.raised hch) (.inr (htm.mono hX.le)) (hds.mono hX.le) (hu.mono hX.le) hH)

theorem tmps_rel {args : List AV} {args' : Array Value} (h : VRels φ args args'.toList) {n : Nat} (hl : args.length ≤ n) : TRel φ (T.ofL args 0 .leaf) n (args' ++ Array.replicate (n - args'.size) Go.undef) := by
  have hlen := h.length
  simp only [Array.length_toList] at hlen
  refine ⟨by simp; omega, fun t v hv => ?_⟩
  rw [T.get_ofL] at hv
  split at hv
  · rename_i ht
    simp only [Nat.sub_zero, Nat.zero_add] at hv ht
    obtain ⟨x, hx, hr⟩ := h.get hv
    refine ⟨by omega, ?_⟩
    have hx' : args'[t]? = some x := by simpa using hx
    rw [Array.getD_eq_getD_getElem?, Array.getElem?_append_left (by omega), hx']
    exact hr
  · simp [T.get_leaf] at hv
theorem call_ok (hE : E.Ok P) {R : Rec} (hR : AllOk P E R) : CallOk P E (stepR E R) := by
  intro f args up h r hc φ kind cs₀ cs w args' hargs hu H
  have hc : callStep E R f args up h = some r := hc
  simp only [callStep, Option.bind_eq_bind, Option.bind_eq_some_iff] at hc
  obtain ⟨fn, hfn, c, hb, hc⟩ := hc
  split at hc
  · rename_i hl
    simp only [Option.bind_eq_some_iff] at hc
    obtain ⟨⟨ex, s⟩, hcode, hc⟩ := hc
    have hf := hE.fn f fn hfn
    let b : Frame := { fn := f, tmps := #[], todo := [], defers := [], mode := .run, kind := kind }
    have henter : Frame.enter P f args' kind = b.atR { tmps := args' ++ Array.replicate (fn.ntmps - args'.size) Go.undef, defers := [] } [.code c] := by
      simp [Frame.enter, Frame.atR, hf, hb, b]
    have ha := hR.code _ _ _ _ _ hcode φ b { tmps := args' ++ Array.replicate (fn.ntmps - args'.size) Go.undef, defers := [] } cs₀ cs w [] ⟨rfl, rfl⟩ ⟨tmps_rel hargs hl, rfl, hu, H⟩
    rw [← henter] at ha
    obtain ⟨φ', a', cs', w', hg, ht, hd, hu', hH, hX⟩ := ha
    have leave : ∀ m fr, R.leave fn s m = some r → Steps P (lone (Frame.enter P f args' kind) cs w) (lone fr cs' w') → fr.fn = f → fr.kind = kind → MdRel φ' m fr.mode → fr.tmps = a'.tmps → fr.defers = a'.defers →
        (((∃ c, m = .panicking c) ∧ s.df = []) ∨ TRel φ' s.tm fn.ntmps a'.tmps) → Whole P E φ h w f kind cs₀ (lone (Frame.enter P f args' kind) cs w) r := by
      intro m fr hl hs h1 h2 h3 h4 h5 h6
      exact Whole.of_steps H hX hs (hR.leave _ _ _ _ hl φ' fr f kind cs₀ cs' w' hf h1 h2 h3 (by rw [h4]; exact h6) (by rw [h5]; exact hd) hu' hH)
    cases ex with
    | normal =>
      exact leave .returning { b.atR a' [] with mode := .returning } hc (hg.trans (.one (stepR_end rfl))) rfl rfl rfl rfl rfl (.inr (ht.resolve_left (by rintro ⟨⟨c, hc⟩, _⟩; cases hc)))
    | ret =>
      obtain ⟨k1, hs⟩ := hg
      exact leave .returning { b.atR a' (.code .ret :: k1) with mode := .returning } hc (hs.trans (.one (stepR_ret rfl))) rfl rfl rfl rfl rfl (.inr (ht.resolve_left (by rintro ⟨⟨c, hc⟩, _⟩; cases hc)))
    | panic pc =>
      obtain ⟨todo, l, hch, hs⟩ := hg
      exact leave (.panicking pc) { b.atR a' todo with mode := .panicking l } hc hs rfl rfl ⟨l, rfl, hch⟩ rfl rfl (ht.imp (fun h => ⟨⟨pc, rfl⟩, h.2⟩) id)
    | exit id => cases hc
    | goto l => cases hc
  · cases hc
theorem call_has {R : Rec} : ∀ f args up h r, (stepR E R).call f args up h = some r → ∃ fn, E.fn.get f = some fn ∧ fn.body.isSome = true := by
  intro f args up h r hc
  have hc : callStep E R f args up h = some r := hc
  simp only [callStep, Option.bind_eq_bind, Option.bind_eq_some_iff] at hc
  obtain ⟨fn, hfn, c, hb, _⟩ := hc
  exact ⟨fn, hfn, by rw [hb]; rfl⟩

/-! ### Scopes -/
theorem stepR_inScope {b : Frame} {a : Act} {k : List Item} {cs : List Frame} {B : Code} : step P (lone (b.atR a (.inScope B :: k)) cs w) = .next (lone (b.atR a k) cs w) :=
  step_lone_go (by simp [stepG, stepG.exec, Frame.atR])
theorem stepR_scope {b : Frame} {a : Act} {k : List Item} {cs : List Frame} {B : Code} : step P (lone (b.atR a (.code (.scope B) :: k)) cs w) = .next (lone (b.atR a (.code B :: .inScope B :: k)) cs w) :=
  step_lone_go (by simp [stepG, stepG.exec, Frame.atR])
/-- What is left by anything but its end, with an item less or more. -/
theorem After.pass {cx : Cx} {b : Frame} {cs₀ : List Frame} {m : Machine} {k k' : List Item} {ex : Ex} {s' : St} (g : After P E φ h w cx b cs₀ m k ex s') (hn : ex ≠ .normal) (he : ∀ id, ex = .exit id → exitTo id k = exitTo id k')
    (hg : ∀ l, ex = .goto l → gotoIn l k = gotoIn l k') : After P E φ h w cx b cs₀ m k' ex s' := by
  obtain ⟨φ', a', cs', w', g1, g2⟩ := g
  refine ⟨φ', a', cs', w', ?_, g2⟩
  cases ex with
  | normal => exact absurd rfl hn
  | exit id => obtain ⟨k1, h1, h2⟩ := g1; exact ⟨k1, h1.trans (he id rfl), h2⟩
  | goto l => obtain ⟨k1, h1, h2⟩ := g1; exact ⟨k1, h1.trans (hg l rfl), h2⟩
  | ret => exact g1
  | panic c => exact g1
theorem scope_ok {R : Rec} (hR : AllOk P E R) : ScopeOk P E (stepR E R) := by
  intro cx B c s ex s' hs φ b a cs₀ cs w k hx hr
  have hs : scopeStep R cx B c s = some (ex, s') := hs
  simp only [scopeStep, Option.bind_eq_bind, Option.bind_eq_some_iff] at hs
  obtain ⟨⟨ex1, s1⟩, hc, hs⟩ := hs
  have ha := hR.code _ _ _ _ _ hc φ b a cs₀ cs w (.inScope B :: k) hx hr
  cases ex1 with
  | goto l =>
    simp only at hs
    split at hs
    · rename_i rest hl
      obtain ⟨φ', a', cs', w', ⟨k1, h1, h2⟩, g2, g3, g4, g5, g6⟩ := ha
      have hgo : gotoIn l k1 = some (.code rest :: .inScope B :: k) := by rw [h1]; simp [gotoIn, hl]
      exact After.of_steps hr.hp g6 (h2.trans (.one (stepR_goto hgo))) (hR.scope _ _ _ _ _ _ hs φ' b a' cs₀ cs' w' k (hx.mono g6.le) ⟨g2.resolve_left (by rintro ⟨⟨c, hc⟩, _⟩; cases hc), g3, g4, g5⟩)
    · rename_i hl
      cases hs
      exact ha.pass (by simp) (by intro id h; cases h) (by intro l' h; cases h; simp [gotoIn, hl])
  | normal =>
    cases hs
    obtain ⟨φ', a', cs', w', g1, g2⟩ := ha
    exact ⟨φ', a', cs', w', g1.trans (.one stepR_inScope), g2⟩
  | exit id => cases hs; exact ha.pass (by simp) (by intro id h; simp [exitTo]) (by intro l' h; cases h)
  | ret => cases hs; exact ha.pass (by simp) (by intro id h; cases h) (by intro l' h; cases h)
  | panic c => cases hs; exact ha.pass (by simp) (by intro id h; cases h) (by intro l' h; cases h)
end
end Go.Av

/- The machine beside the evaluator: one round of a range over a function. -/
namespace Go.Av
section
variable {P : Program} {E : Env} {φ ψ : Phi} {h : Heap} {w : World}

/-- A loop's record. -/
theorem loop_obj (H : HRel E φ h w) {l : Nat} {st : LoopState} {pd : Option Code} {fn : FuncId} {nt : Nat} {tm : T AV} {ps : List Tmp} {as bd : Code} {df : Nat} (hb : h.b.get l = some (.loop st pd fn nt tm ps as bd df)) {L : Loc} (hp : φ l = some L) :
    ∃ lp : Loop, w.heap[L.b]? = some (.loop lp) ∧ (Instr.getLoop L.b).run P w = .ok lp w ∧ (∀ o, (setObj L.b o).run P w = .ok () (setW w L.b o)) ∧ lp.state = st ∧ lp.pending = pd ∧ lp.fn = fn ∧ TRel φ tm nt lp.tmps ∧ lp.params.toList = ps ∧ lp.assign = as ∧ lp.body = bd ∧
      ∃ D, φ df = some D ∧ lp.defers = D.b := by
  have hbl := H.blk l L hp
  rw [hb] at hbl
  obtain ⟨lp, h1, h2⟩ := hbl
  refine ⟨lp, h1, ?_, fun o => by simp only [setObj, Sem.run, h1]; rfl, h2⟩
  simp only [Instr.getLoop, Sem.run_bind]
  have : (getObj L.b).run P w = .ok (.loop lp) w := by simp only [getObj, Sem.run, h1]
  rw [this]; rfl
/-- A loop's record is turned. -/
theorem loop_turn (H : HRel E φ h w) {l : Nat} {st : LoopState} {pd : Option Code} {fn : FuncId} {nt : Nat} {tm : T AV} {ps : List Tmp} {as bd : Code} {df : Nat} (hb : h.b.get l = some (.loop st pd fn nt tm ps as bd df)) {L : Loc} (hp : φ l = some L)
    {lp : Loop} (hl : w.heap[L.b]? = some (.loop lp)) (st' : LoopState) (pd' : Option Code) :
    HRel E φ ⟨h.b.set l (.loop st' pd' fn nt tm ps as bd df), h.next⟩ (setW w L.b (.loop { lp with state := st', pending := pd' })) ∧
    Ext φ h w φ ⟨h.b.set l (.loop st' pd' fn nt tm ps as bd df), h.next⟩ (setW w L.b (.loop { lp with state := st', pending := pd' })) := by
  have hbl := H.blk l L hp
  rw [hb] at hbl
  obtain ⟨lp', h1, h2, h3, h4⟩ := hbl
  rw [hl] at h1
  cases h1
  exact H.turn hp (by unfold Mod; rw [hb]; trivial) _ _ ⟨_, rfl, rfl, rfl, h4⟩
theorem setPs_rel {nt : Nat} : ∀ {ps : List Tmp} {args : List AV} {xs : List Value} {tm tm' : T AV} {tmps : Array Value}, TRel φ tm nt tmps → VRels φ args xs → setPs tm nt ps args = some tm' →
    ps.length = args.length ∧ TRel φ tm' nt ((ps.zip xs).foldl (fun tmps p => tmps.setIfInBounds p.1 p.2) tmps)
  | [], [], xs, tm, tm', tmps, r, h, hs => by simp only [VRels] at h; subst h; simp only [setPs, Option.some.injEq] at hs; subst hs; exact ⟨rfl, r⟩
  | [], _ :: _, _, _, _, _, _, _, hs => by cases hs
  | _ :: _, [], _, _, _, _, _, _, hs => by cases hs
  | p :: ps, v :: vs, xs, tm, tm', tmps, r, h, hs => by
    simp only [VRels] at h
    obtain ⟨y, ys, rfl, h1, h2⟩ := h
    simp only [setPs] at hs
    split at hs
    · rename_i hp
      obtain ⟨h3, h4⟩ := setPs_rel (r.set hp h1) h2 hs
      exact ⟨by simp [h3], h4⟩
    · cases hs

/-- One call of yield: the round, and back. -/
theorem round_ok (hE : E.Ok P) {R : Rec} (hR : AllOk P E R) {l : Nat} {args : List AV} {q : Rs} (hq : roundV E R l args h = some q) (H : HRel E φ h w) {L : Loc} (hp : φ l = some L) {xs : Array Value} (ha : VRels φ args xs.toList) (c : Frame) (cs : List Frame) :
    ∃ f tmps assign body, (Instr.yield L.b xs).run P w = .ok (.round L.b f tmps assign body) w ∧ ∃ φ' w', HRel E φ' q.hp w' ∧ Ext φ h w φ' q.hp w' ∧
      (match q with
       | .ret v _ _ => ∃ x, VRel φ' v x ∧ Steps P (lone (Frame.round L.b f tmps assign body .normal) (c :: cs) w) (lone (c.finish x) cs w')
       | .pan pc _ _ => ∃ ch, ChRel φ' pc ch ∧ Steps P (lone (Frame.round L.b f tmps assign body .normal) (c :: cs) w) (lone (c.raise ch) cs w')) := by
  simp only [roundV, Option.bind_eq_bind, Option.bind_eq_some_iff] at hq
  obtain ⟨bk, hb, hq⟩ := hq
  split at hq
  rotate_left
  · cases hq
  rename_i st pd fn nt tm ps assign body df
  simp only [Option.bind_eq_some_iff] at hq
  obtain ⟨tm1, htm1, ⟨ex1, s1⟩, hc1, hq⟩ := hq
  obtain ⟨lp, hl, hg, hset, h1, h2, h3, h4, h5, h6, h7, D, h8, h9⟩ := loop_obj (P := P) H hb hp
  obtain ⟨hlen, ht1⟩ := setPs_rel h4 ha htm1
  have hsz : xs.size = lp.params.size := by
    have := ha.length
    rw [← h5] at hlen
    simp only [Array.length_toList] at this hlen
    omega
  refine ⟨lp.fn, (lp.params.zip xs).foldl (fun tmps (t, a) => tmps.setIfInBounds t a) lp.tmps, lp.assign, lp.body, ?_, ?_⟩
  · simp only [Instr.yield, Sem.run_bind, hg, Result.andThen_ok, hsz, ne_eq, not_true, if_false, Sem.run_pure]
  let b : Frame := { fn := fn, tmps := #[], todo := [], defers := [], mode := .run, kind := .normal, roundOf := some L.b }
  let cx : Cx := ⟨fn, nt, some l⟩
  have htm : TRel φ tm1 nt ((lp.params.zip xs).foldl (fun tmps (t, a) => tmps.setIfInBounds t a) lp.tmps) := by
    rw [← Array.foldl_toList, Array.toList_zip, h5]
    exact ht1
  generalize (lp.params.zip xs).foldl (fun tmps (t, a) => tmps.setIfInBounds t a) lp.tmps = tmps0 at htm
  rw [h3, h6, h7]
  have hfr : Frame.round L.b fn tmps0 assign body .normal = b.atR { tmps := tmps0, defers := [] } (.code assign :: [.beginRound, .code body]) := by
    simp [Frame.round, Frame.atR, b]
  rw [hfr]
  have hA := hR.code _ _ _ _ _ hc1 φ b { tmps := tmps0, defers := [] } (c :: cs) (c :: cs) w [.beginRound, .code body] ⟨rfl, L, hp, rfl⟩ ⟨htm, rfl, ⟨rfl, rfl⟩, H⟩
  split at hq
  rotate_left
  · cases hq
  rename_i tm2 up2 hp2 heq
  cases heq
  obtain ⟨φ1, a1, cs1, w1, hs1, hr1, hX1⟩ := hA.normal
  have hd1 : a1.defers = [] := hr1.df
  have hcs : ∀ {φ' : Phi} {cs' : List Frame} {u : Option Md}, URel φ' .normal (c :: cs) cs' u → cs' = c :: cs := by
    intro φ' cs' u hu
    cases u with
    | none => exact hu.2
    | some m => exact absurd hu.1 (by simp)
  obtain rfl := hcs hr1.up
  simp only [Option.bind_eq_some_iff] at hq
  obtain ⟨bk2, hb2, hq⟩ := hq
  split at hq
  rotate_left
  · cases hq
  rename_i pd2 fn2 nt2 tm2' ps2 as2 bd2 df2
  have hp1 := hX1.le _ _ hp
  obtain ⟨lp1, hl1, hg1, hset1, g1, _⟩ := loop_obj (P := P) hr1.hp hb2 hp1
  obtain ⟨hH2, hX2⟩ := loop_turn hr1.hp hb2 hp1 hl1 .busy pd2
  have hpd : lp1.pending = pd2 := by
    have hbl := hr1.hp.blk l L hp1
    rw [hb2] at hbl
    obtain ⟨lp', e1, _, e3, _⟩ := hbl
    rw [hl1] at e1; cases e1; exact e3
  have hbegin : (Instr.beginRound L.b).run P w1 = .ok () (setW w1 L.b (.loop { lp1 with state := .busy, pending := pd2 })) := by
    have : ({ lp1 with state := .busy, pending := pd2 } : Loop) = { lp1 with state := .busy } := by rw [← hpd]
    rw [this]
    simp only [Instr.beginRound, Sem.run_bind, hg1, Result.andThen_ok, hset1, g1, Sem.run_pure]
  have hs2 := stepR_beginRound (P := P) (b := b) (a := a1) (k := [.code body]) (cs := c :: cs) (w := w1) (l := L.b) rfl hbegin
  simp only [Option.bind_eq_some_iff] at hq
  obtain ⟨⟨ex3, s3⟩, hc3, hq⟩ := hq
  have hB := hR.code _ _ _ _ _ hc3 φ1 b a1 (c :: cs) (c :: cs) _ [] ⟨rfl, L, hp1, rfl⟩ ⟨hr1.tm, hd1, ⟨rfl, rfl⟩, hH2⟩
  have hX12 := Ext.trans H hX1 hX2
  have hs12 := hs1.trans (.one hs2)
  split at hq
  rotate_left
  · cases hq
  rename_i exx tm3 up3 hp3 heq
  cases heq
  obtain ⟨φ3, a3, cs3, w3, hgo, _, hd3, hu3, hH3, hX3⟩ := hB
  have hd3 : a3.defers = [] := hd3
  obtain rfl := hcs hu3
  have hX13 := Ext.trans H hX12 hX3
  have hp3' := hX3.le _ _ hp1
  split at hq
  · rename_i pc
    simp only [Option.map_eq_some_iff] at hq
    obtain ⟨gn, hgn, rfl⟩ := hq
    obtain ⟨todo, ch, hch, hst⟩ := hgo
    refine ⟨φ3, w3, hH3, hX13, ch, hch, hs12.trans (hst.trans (.one (step_leave_panicked ⟨rfl, hd3, gn, ?_⟩)))⟩
    exact hE.fn _ _ hgn
  · rename_i hnp
    simp only [Option.bind_eq_some_iff] at hq
    obtain ⟨bk4, hb4, hq⟩ := hq
    split at hq
    rotate_left
    · cases hq
    obtain ⟨lp3, hl3, hg3, hset3, _⟩ := loop_obj (P := P) hH3 hb4 hp3'
    have hend : ∀ j : Option Code, (Instr.endRound L.b j).run P w3 = .ok (.bool j.isNone) (setW w3 L.b (.loop { lp3 with state := if j.isNone then .ready else .done, pending := j })) := by
      intro j
      simp only [Instr.endRound, Sem.run_bind, hg3, Result.andThen_ok, hset3, Sem.run_pure]
    split at hq
    · rename_i hj
      cases hq
      have ht := loop_turn hH3 hb4 hp3' hl3 .ready none
      refine ⟨φ3, _, ht.1, Ext.trans H hX13 ht.2, .bool true, by simp [VRel], ?_⟩
      cases ex3 with
      | normal => exact hs12.trans (hgo.trans (.one (stepR_round_end rfl rfl (hend none))))
      | exit id => cases hj
      | goto t => cases hj
      | ret => cases hj
      | panic pc => exact absurd rfl (hnp pc)
    · rename_i j hj
      cases hq
      have ht := loop_turn hH3 hb4 hp3' hl3 .done (some j)
      refine ⟨φ3, _, ht.1, Ext.trans H hX13 ht.2, .bool false, by simp [VRel], ?_⟩
      cases ex3 with
      | normal => cases hj
      | exit id =>
        cases hj
        obtain ⟨k1, hk, hst⟩ := hgo
        exact hs12.trans (hst.trans (.one (stepR_round_exit rfl rfl hk (hend (some (.exit id))))))
      | goto t =>
        cases hj
        obtain ⟨k1, hk, hst⟩ := hgo
        exact hs12.trans (hst.trans (.one (stepR_round_goto rfl rfl hk (hend (some (.goto t))))))
      | ret =>
        cases hj
        obtain ⟨k1, hst⟩ := hgo
        exact hs12.trans (hst.trans (.one (stepR_round_ret rfl rfl (hend (some .ret)))))
      | panic pc => exact absurd rfl (hnp pc)
end
end Go.Av

/- The machine beside the evaluator: one operation of a region. -/
namespace Go.Av
section
variable {P : Program} {E : Env} {φ ψ : Phi} {h : Heap} {w : World}

/-- What one operation comes to on the machine. -/
def OpGoes (P : Program) (E : Env) (φ : Phi) (s : St) (w : World) (b : Frame) (cs₀ : List Frame) (a : Act) (m : Machine) (ops : Array Oper) (dst : Option Tmp) (rest : List Nat) (k : List Item) : OR → Prop
  | .val v s' => s'.tm = s.tm ∧ ∃ φ' ds cs' w' x, Steps P m (lone (b.atR (({ a with defers := ds } : Act).put dst x) (.inRegion ops rest :: k)) cs' w') ∧ VRel φ' v x ∧ DRel φ' s'.df ds ∧ URel φ' b.kind cs₀ cs' s'.up ∧ HRel E φ' s'.hp w' ∧ Ext φ s.hp w φ' s'.hp w'
  | .pan c s' => s'.tm = s.tm ∧ ∃ φ' ds cs' w' todo l, ChRel φ' c l ∧ Steps P m (lone { b.atR { a with defers := ds } todo with mode := .panicking l } cs' w') ∧ DRel φ' s'.df ds ∧ URel φ' b.kind cs₀ cs' s'.up ∧ HRel E φ' s'.hp w' ∧ Ext φ s.hp w φ' s'.hp w'

section
variable {b : Frame} {a : Act} {k : List Item} {cs cs₀ : List Frame} {ops : Array Oper} {i : Nat} {rest : List Nat} {o : Oper}

theorem step_value (ho : ops[i]? = some o) (hw : Region.wanted o (yielded ops a.tmps) = true) {v : Value} {w' : World} (hr : (o.semAt b.roundOf a.eval).run P w = .ok (.value v) w') :
    step P (lone (b.atR a (.inRegion ops (i :: rest) :: k)) cs w) = .next (lone (b.atR (a.put o.dst v) (.inRegion ops rest :: k)) cs w') := by
  have hfin : (b.atR a (.inRegion ops (i :: rest) :: k)).finish v = b.atR (a.put o.dst v) (.inRegion ops rest :: k) := by rw [Frame.finish_atR, ho]; rfl
  refine step_lone_go ?_
  rw [stepGR_op ho hw, ← hfin]
  simp [stepG.apply, hr]
theorem step_skipped (ho : ops[i]? = some o) (hw : Region.wanted o (yielded ops a.tmps) = true) {w' : World} (hr : (o.semAt b.roundOf a.eval).run P w = .ok .skip w') :
    step P (lone (b.atR a (.inRegion ops (i :: rest) :: k)) cs w) = .next (lone (b.atR (a.put o.dst Go.undef) (.inRegion ops rest :: k)) cs w') := by
  have hfin : (b.atR a (.inRegion ops (i :: rest) :: k)).finish Go.undef = b.atR (a.put o.dst Go.undef) (.inRegion ops rest :: k) := by rw [Frame.finish_atR, ho]; rfl
  refine step_lone_go ?_
  rw [stepGR_op ho hw, ← hfin]
  simp [stepG.apply, hr]
theorem step_panics (ho : ops[i]? = some o) (hw : Region.wanted o (yielded ops a.tmps) = true) {v : Value} {w' : World} (hr : (o.semAt b.roundOf a.eval).run P w = .halt (.panic v) w') :
    step P (lone (b.atR a (.inRegion ops (i :: rest) :: k)) cs w) = .next (lone { b.atR a (.inRegion ops (i :: rest) :: k) with mode := .panicking [{ v, recovered := false }] } cs w') := by
  refine step_lone_go ?_
  rw [stepGR_op ho hw, ← Frame.raise_atR]
  simp [stepG.apply, hr]
theorem step_enters (ho : ops[i]? = some o) (hw : Region.wanted o (yielded ops a.tmps) = true) {f : FuncId} {args : Array Value} {w' : World} (hr : (o.semAt b.roundOf a.eval).run P w = .ok (.enter f args) w') :
    step P (lone (b.atR a (.inRegion ops (i :: rest) :: k)) cs w) = .next (lone (Frame.enter P f args .normal) (b.atR a (.inRegion ops (i :: rest) :: k) :: cs) w') := by
  refine step_lone_go ?_
  rw [stepGR_op ho hw]
  simp [stepG.apply, hr, Frame.atR]
theorem step_rounds (ho : ops[i]? = some o) (hw : Region.wanted o (yielded ops a.tmps) = true) {l : Nat} {f : FuncId} {tmps : Array Value} {as bd : Code} {w' : World} (hr : (o.semAt b.roundOf a.eval).run P w = .ok (.round l f tmps as bd) w') :
    step P (lone (b.atR a (.inRegion ops (i :: rest) :: k)) cs w) = .next (lone (Frame.round l f tmps as bd .normal) (b.atR a (.inRegion ops (i :: rest) :: k) :: cs) w') := by
  refine step_lone_go ?_
  rw [stepGR_op ho hw]
  simp [stepG.apply, hr]
theorem step_defers (ho : ops[i]? = some o) (hw : Region.wanted o (yielded ops a.tmps) = true) {d : Deferred} {w' : World} (hr : (o.semAt b.roundOf a.eval).run P w = .ok (.defer d) w') :
    step P (lone (b.atR a (.inRegion ops (i :: rest) :: k)) cs w) = .next (lone (b.atR (({ a with defers := d :: a.defers } : Act).put o.dst Go.undef) (.inRegion ops rest :: k)) cs w') := by
  have hfin : ({ b.atR a (.inRegion ops (i :: rest) :: k) with defers := d :: a.defers } : Frame).finish Go.undef = b.atR (({ a with defers := d :: a.defers } : Act).put o.dst Go.undef) (.inRegion ops rest :: k) := by
    have := Frame.finish_atR b { a with defers := d :: a.defers } ops i rest k Go.undef
    rw [ho] at this; exact this
  refine step_lone_go ?_
  rw [stepGR_op ho hw, ← hfin]
  simp only [stepG.apply, Sem.runT_eq, hr, GStep.bare_after]
  rfl
theorem step_recovers (hb : b.roundOf = none) (ho : ops[i]? = some o) (hw : Region.wanted o (yielded ops a.tmps) = true) {w' : World} (hr : (o.semAt b.roundOf a.eval).run P w = .ok .recover w') {v : Value} {cs' : List Frame}
    (ht : tryRecover (b.atR a (.inRegion ops (i :: rest) :: k)) cs = some (v, cs') ∨ (tryRecover (b.atR a (.inRegion ops (i :: rest) :: k)) cs = none ∧ v = .nilIface ∧ cs' = cs)) :
    step P (lone (b.atR a (.inRegion ops (i :: rest) :: k)) cs w) = .next (lone (b.atR (a.put o.dst v) (.inRegion ops rest :: k)) cs' w') := by
  have hfin : (b.atR a (.inRegion ops (i :: rest) :: k)).finish v = b.atR (a.put o.dst v) (.inRegion ops rest :: k) := by rw [Frame.finish_atR, ho]; rfl
  refine step_lone_go ?_
  rw [stepGR_op ho hw, ← hfin]
  have hro : (b.atR a (.inRegion ops (i :: rest) :: k)).roundOf = none := hb
  rcases ht with ht | ⟨ht, rfl, rfl⟩
  · simp [stepG.apply, hr, hro, ht]
  · simp [stepG.apply, hr, hro, ht]

theorem act_same : ({ a with defers := a.defers } : Act) = a := rfl
/-- An operation that is no call of code, on the machine. -/
theorem op_plain (hE : E.Ok P) {R : Rec} {cx : Cx} {s : St} (htm : Sees φ s.tm a o.op.operands) (hdf : DRel φ s.df a.defers) (hup : URel φ b.kind cs₀ cs s.up) (H : HRel E φ s.hp w) {q : OR} (h : opGo E R cx o.op s = some q)
    (ho : ops[i]? = some o) (hw : Region.wanted o (yielded ops a.tmps) = true) (hnc : ∀ c, o.op = .call c → ∃ b, c.callee = .builtin b ∧ b ≠ .recover) (hnd : ∀ c, o.op ≠ .defer c) :
    OpGoes P E φ s w b cs₀ a (lone (b.atR a (.inRegion ops (i :: rest) :: k)) cs w) ops o.dst rest k q := by
  have hd := op_done (P := P) hE H htm h hnc hnd
  have hsem := Oper.semAt_eq b.roundOf a.eval o hnd
  cases q with
  | val v s' =>
    obtain ⟨e1, e2, e3, φ', n, w', hr, hn, hH, hX⟩ := hd
    rw [← hsem] at hr
    refine ⟨e1, φ', a.defers, cs, w', ?_⟩
    rcases hn with ⟨x, rfl, hv⟩ | ⟨rfl, rfl⟩
    · exact ⟨x, .one (step_value ho hw hr), hv, by rw [e2]; exact hdf.mono hX.le, by rw [e3]; exact hup.mono hX.le, hH, hX⟩
    · exact ⟨Go.undef, .one (step_skipped ho hw hr), by simp [VRel], by rw [e2]; exact hdf.mono hX.le, by rw [e3]; exact hup.mono hX.le, hH, hX⟩
  | pan c s' =>
    obtain ⟨e1, e2, e3, φ', xa, x, w', rfl, hr, hv, hH, hX⟩ := hd
    rw [← hsem] at hr
    exact ⟨e1, φ', a.defers, cs, w', _, _, ⟨x, [], rfl, hv, rfl⟩, .one (step_panics ho hw hr), by rw [e2]; exact hdf.mono hX.le, by rw [e3]; exact hup.mono hX.le, hH, hX⟩

/-- A call of a function's value. -/
theorem resolve_rel {tm : T AV} {c : Call} (r : Sees φ tm a c.operands) {f : AV} {vs : List AV} (hc : callee tm c = some (f, vs)) (ty : TypeId) :
    ∃ x, VRel φ f x ∧ VRels φ vs (c.args.map a.eval).toList ∧ resolve a.eval c ty = Deferred.ofValue x (c.args.map a.eval) := by
  unfold callee at hc
  split at hc
  · rename_i fo hfo
    simp only [Option.bind_eq_bind, Option.bind_eq_some_iff, Option.some.injEq, Prod.mk.injEq] at hc
    obtain ⟨f', hf, vs', hvs, rfl, rfl⟩ := hc
    exact ⟨a.eval fo, r _ (by simp [Call.operands, hfo]) _ hf, args_rel r (by intro y hy; simp [Call.operands, hy]) hvs, by simp only [resolve, hfo]⟩
  · cases hc
theorem op_call (hE : E.Ok P) {R : Rec} (hR : AllOk P E R) {cx : Cx} {s : St} (htm : Sees φ s.tm a o.op.operands) (hdf : DRel φ s.df a.defers) (hup : URel φ b.kind cs₀ cs s.up) (H : HRel E φ s.hp w) {q : OR} {c : Call} (hop : o.op = .call c)
    (hcb : ∀ bi, c.callee ≠ .builtin bi) (h : oCall E R cx s c = some q) (ho : ops[i]? = some o) (hw : Region.wanted o (yielded ops a.tmps) = true) :
    OpGoes P E φ s w b cs₀ a (lone (b.atR a (.inRegion ops (i :: rest) :: k)) cs w) ops o.dst rest k q := by
  have hsem : (o.semAt b.roundOf a.eval) = (do let d ← resolve a.eval c o.type; invoke d.target d.args) := by
    rw [Oper.semAt_eq b.roundOf a.eval o (by intro c' h'; rw [hop] at h'; cases h')]
    unfold execOp; rw [hop]
  unfold oCall at h
  split at h
  · rename_i bi hbi; exact absurd hbi (hcb bi)
  simp only [Option.bind_eq_bind, Option.bind_eq_some_iff] at h
  obtain ⟨⟨f, vs⟩, hcal, q', hq, h⟩ := h
  obtain ⟨x, hxr, hvs, hres⟩ := resolve_rel (by rw [hop] at htm; exact htm) hcal o.type
  rw [hres] at hsem
  have hfin : ∀ v, (b.atR a (.inRegion ops (i :: rest) :: k)).finish v = b.atR (a.put o.dst v) (.inRegion ops rest :: k) := by intro v; rw [Frame.finish_atR, ho]; rfl
  cases f with
  | func g first captured =>
    simp only [callV] at hq
    simp only [VRel] at hxr
    obtain ⟨f', c', rfl, hf', hc'⟩ := hxr
    have hargs : VRels φ (first ++ vs ++ captured) (f' ++ c.args.map a.eval ++ c').toList := by
      rw [Array.toList_append, Array.toList_append]; exact (hf'.append hvs).append hc'
    have hrun : (o.semAt b.roundOf a.eval).run P w = (callFunc g (f' ++ c.args.map a.eval ++ c')).run P w := by
      rw [hsem]; simp [Deferred.ofValue, invoke]
    split at hq
    · rename_i n hext
      simp only [Option.map_eq_some_iff] at hq
      obtain ⟨v, hv, rfl⟩ := hq
      cases h
      obtain ⟨y, hy, hyr⟩ := hE.ext g n hext _ v φ _ w hv hargs
      exact ⟨rfl, φ, a.defers, cs, w, y, .one (step_value ho hw (hrun.trans hy)), hyr, hdf, hup, H, .refl ..⟩
    · have hcall := hR.call g _ none s.hp q' hq φ .normal (b.atR a (.inRegion ops (i :: rest) :: k) :: cs) (b.atR a (.inRegion ops (i :: rest) :: k) :: cs) w _ hargs ⟨rfl, rfl⟩ H
      obtain ⟨gn, hgn, hgb⟩ := hR.has _ _ _ _ _ hq
      have henter : (callFunc g (f' ++ c.args.map a.eval ++ c')).run P w = .ok (.enter g (f' ++ c.args.map a.eval ++ c')) w := by
        have h1 := hE.fn g gn hgn
        have h2 := hE.name g gn hgn hgb
        cases hbd : gn.body with
        | none => rw [hbd] at hgb; cases hgb
        | some bd => simp [callFunc, h1, h2, hbd]
      have hs := step_enters (cs := cs) (k := k) (rest := rest) ho hw (hrun.trans henter)
      obtain ⟨φ', fr, cs', w', hst, hg, hu, hH, hX⟩ := hcall
      cases q' with
      | ret v up hp' =>
        cases h
        obtain ⟨_, hk, hm, hd, fn, y, hfn, hy, hyr⟩ := hg
        obtain rfl : cs' = b.atR a (.inRegion ops (i :: rest) :: k) :: cs := by
          cases up with
          | none => exact hu.2
          | some m => exact absurd hu.1 (by simp)
        refine ⟨rfl, φ', a.defers, cs, w', y, ?_, hyr, hdf.mono hX.le, hup.mono hX.le, hH, hX⟩
        have := step_leave_returned (P := P) (c := b.atR a (.inRegion ops (i :: rest) :: k)) (cs := cs) (w := w') (v := y) (fr := fr) ⟨hm, hd, hk, fn, hfn, hy⟩
        rw [hfin] at this
        exact .head hs (hst.trans (.one this))
      | pan pc up hp' =>
        cases h
        obtain ⟨_, hk, hd, ⟨fn, hfn⟩, l, hm, hch⟩ := hg
        obtain rfl : cs' = b.atR a (.inRegion ops (i :: rest) :: k) :: cs := by
          cases up with
          | none => exact hu.2
          | some m => exact absurd hu.1 (by simp)
        refine ⟨rfl, φ', a.defers, cs, w', .inRegion ops (i :: rest) :: k, l, hch, ?_, hdf.mono hX.le, hup.mono hX.le, hH, hX⟩
        have := step_leave_panicked (P := P) (c := b.atR a (.inRegion ops (i :: rest) :: k)) (cs := cs) (w := w') (chain := l) (fr := fr) ⟨hm, hd, fn, hfn⟩
        rw [Frame.raise_atR] at this
        exact .head hs (hst.trans (.one this))
  | yield l =>
    simp only [callV] at hq
    simp only [VRel] at hxr
    obtain ⟨L, hL, rfl⟩ := hxr
    obtain ⟨f, tmps, assign, body, hy, φ', w', hH, hX, hst⟩ := round_ok (P := P) hE hR hq H hL hvs (b.atR a (.inRegion ops (i :: rest) :: k)) cs
    have hrun : (o.semAt b.roundOf a.eval).run P w = .ok (.round L.b f tmps assign body) w := by
      rw [hsem]; simp only [Deferred.ofValue, Sem.run_bind, Sem.run_pure, Result.andThen_ok, invoke]
      have : (#[] ++ c.args.map a.eval : Array Value) = c.args.map a.eval := by simp
      rw [this]; exact hy
    have hs := step_rounds (cs := cs) (k := k) (rest := rest) ho hw hrun
    cases q' with
    | ret v up hp' =>
      cases h
      obtain ⟨y, hyr, hst⟩ := hst
      rw [hfin] at hst
      exact ⟨rfl, φ', a.defers, cs, w', y, .head hs hst, hyr, hdf.mono hX.le, hup.mono hX.le, hH, hX⟩
    | pan pc up hp' =>
      cases h
      obtain ⟨ch, hch, hst⟩ := hst
      rw [Frame.raise_atR] at hst
      exact ⟨rfl, φ', a.defers, cs, w', .inRegion ops (i :: rest) :: k, ch, hch, .head hs hst, hdf.mono hX.le, hup.mono hX.le, hH, hX⟩
  | _ => simp [callV] at hq
theorem op_ok (hE : E.Ok P) {R : Rec} (hR : AllOk P E R) {cx : Cx} (hx : XRel φ cx b) {s : St} (htm : Sees φ s.tm a o.op.operands) (hdf : DRel φ s.df a.defers) (hup : URel φ b.kind cs₀ cs s.up) (H : HRel E φ s.hp w) {q : OR}
    (h : opGo E R cx o.op s = some q) (ho : ops[i]? = some o) (hw : Region.wanted o (yielded ops a.tmps) = true) :
    OpGoes P E φ s w b cs₀ a (lone (b.atR a (.inRegion ops (i :: rest) :: k)) cs w) ops o.dst rest k q := by
  by_cases hd : ∃ c, o.op = .defer c
  · obtain ⟨c, hop⟩ := hd
    rw [hop] at h
    have h : oDefer cx s c = some q := h
    unfold oDefer at h
    split at h
    · rename_i hround
      simp only [Option.bind_eq_bind, Option.bind_eq_some_iff] at h
      obtain ⟨⟨f, vs⟩, hcal, h⟩ := h
      split at h
      · rename_i g first captured vs heq
        cases heq
        cases h
        obtain ⟨x, hxr, hvs, hres⟩ := resolve_rel (by rw [hop] at htm; exact htm) hcal o.type
        simp only [VRel] at hxr
        obtain ⟨f', c', rfl, hf', hc'⟩ := hxr
        have hro : b.roundOf = none := by have := hx.round; rw [hround] at this; exact this
        have hrun : (o.semAt b.roundOf a.eval).run P w = .ok (.defer { target := .fn (.func g) c', args := f' ++ c.args.map a.eval }) w := by
          rw [hro, Oper.semAt_none]
          unfold execOp
          rw [hop]
          simp only [hres, Deferred.ofValue, Sem.run_bind, Sem.run_pure, Result.andThen_ok]
        refine ⟨rfl, φ, _, cs, w, Go.undef, .one (step_defers ho hw hrun), by simp [VRel], ⟨_, _, _, rfl, ?_, hc', hdf⟩, hup, H, .refl ..⟩
        rw [Array.toList_append]; exact hf'.append hvs
      · cases h
    · cases h
  have hnd : ∀ c, o.op ≠ .defer c := fun c hc => hd ⟨c, hc⟩
  by_cases hc : ∃ c, o.op = .call c ∧ ∀ bi, c.callee = .builtin bi → bi = .recover
  · obtain ⟨c, hop, hbi⟩ := hc
    rw [hop] at h
    by_cases hb : ∃ bi, c.callee = .builtin bi
    · obtain ⟨bi, hb⟩ := hb
      obtain rfl := hbi bi hb
      have h : oCall E R cx s c = some q := h
      simp only [oCall, hb, Option.bind_eq_bind, Option.bind_eq_some_iff] at h
      obtain ⟨vs, hvs, h⟩ := h
      have h : recoverV cx s = some q := by simpa [builtinV] using h
      have hrun : (o.semAt b.roundOf a.eval).run P w = .ok .recover w := by
        rw [Oper.semAt_eq b.roundOf a.eval o hnd]
        unfold execOp
        rw [hop]
        simp [resolve, hb, invoke, builtin]
      unfold recoverV at h
      have hround : cx.round = none := by
        cases hr : cx.round with
        | none => rfl
        | some l => rw [hr] at h; split at h <;> simp_all
      have hro : b.roundOf = none := by have := hx.round; rw [hround] at this; exact this
      split at h
      · rename_i v older hr1 hup1
        cases h
        rw [hup1] at hup
        obtain ⟨hk, c₀, cr, u, rfl, rfl, l, rfl, x, ys, rfl, hv, hys⟩ := hup
        have hkind : (b.atR a (.inRegion ops (i :: rest) :: k)).kind = .deferred := hk
        refine ⟨rfl, φ, a.defers, _, w, x, .one (step_recovers (v := x) (cs' := { c₀ with mode := .panicking ({ v := x, recovered := true } :: ys) } :: cr) hro ho hw hrun (.inl ?_)), hv, hdf, ?_, H, .refl ..⟩
        · simp only [tryRecover, hkind]
        · exact ⟨hk, c₀, cr, _, rfl, rfl, _, rfl, x, ys, rfl, hv, hys⟩
      · rename_i hr1 hup1
        cases h
        refine ⟨rfl, φ, a.defers, cs, w, .nilIface, .one (step_recovers (v := .nilIface) (cs' := cs) hro ho hw hrun (.inr ⟨?_, rfl, rfl⟩)), by simp [VRel], hdf, hup, H, .refl ..⟩
        cases hu : s.up with
        | none =>
          rw [hu] at hup
          have hkind : (b.atR a (.inRegion ops (i :: rest) :: k)).kind = .normal := hup.1
          unfold tryRecover
          rw [hkind]
        | some m =>
          rw [hu] at hup
          obtain ⟨hk, c₀, cr, u, rfl, rfl, hm⟩ := hup
          have hkind : (b.atR a (.inRegion ops (i :: rest) :: k)).kind = .deferred := hk
          simp only [tryRecover, hkind]
          cases m with
          | returning => simp only [MdRel] at hm; subst hm; rfl
          | panicking ch =>
            obtain ⟨l, rfl, hch⟩ := hm
            cases ch with
            | nil => simp only [ChRel] at hch; subst hch; rfl
            | cons e older =>
              obtain ⟨v, r⟩ := e
              obtain ⟨x, ys, rfl, _, _⟩ := hch
              cases r with
              | true => rfl
              | false => exact absurd hu (hup1 v older)
      · cases h
    · exact op_call hE hR htm hdf hup H hop (fun bi hbi' => hb ⟨bi, hbi'⟩) h ho hw
  · refine op_plain hE htm hdf hup H h ho hw (fun c hop => ?_) hnd
    cases hcal : c.callee with
    | builtin bi => exact ⟨bi, rfl, fun hbi => hc ⟨c, hop, fun bi' h' => by rw [hcal] at h'; cases h'; exact hbi⟩⟩
    | invoke r n => exact absurd ⟨c, hop, fun bi' h' => by rw [hcal] at h'; cases h'⟩ hc
    | value f => exact absurd ⟨c, hop, fun bi' h' => by rw [hcal] at h'; cases h'⟩ hc
end
end
end Go.Av

/- The machine beside the evaluator: the operations of a region in their order; code; a range over a function. -/
namespace Go.Av
section
variable {P : Program} {E : Env} {φ ψ : Phi} {h : Heap} {w : World}

theorem VRel.isBool {v : AV} {x : Value} (h : VRel φ v x) : (∃ b, v = .bool b ∧ x = .bool b) ∨ ((∀ b, v ≠ .bool b) ∧ ∀ b, x ≠ .bool b) := by
  cases v with
  | bool b => exact .inl ⟨b, rfl, by simpa only [VRel] using h⟩
  | undef => simp only [VRel] at h; subst h; exact .inr ⟨by simp, by simp [Go.undef]⟩
  | int k n => simp only [VRel] at h; subst h; exact .inr ⟨by simp, by simp⟩
  | str s => simp only [VRel] at h; obtain ⟨b, rfl, _⟩ := h; exact .inr ⟨by simp, by simp⟩
  | ptr a => cases a with
    | none => simp only [VRel] at h; subst h; exact .inr ⟨by simp, by simp⟩
    | some p => simp only [VRel] at h; obtain ⟨L, _, rfl⟩ := h; exact .inr ⟨by simp, by simp⟩
  | slice a l c =>
    simp only [VRel] at h; unfold SlRel at h
    split at h
    · obtain ⟨rfl, _⟩ := h; exact .inr ⟨by simp, by simp⟩
    · cases h
    · obtain ⟨_, _, _, rfl, _⟩ := h; exact .inr ⟨by simp, by simp⟩
    · obtain ⟨_, _, _, _, rfl, _⟩ := h; exact .inr ⟨by simp, by simp⟩
  | map r => cases r with
    | none => simp only [VRel] at h; subst h; exact .inr ⟨by simp, by simp⟩
    | some r => simp only [VRel] at h; obtain ⟨_, _, rfl⟩ := h; exact .inr ⟨by simp, by simp⟩
  | func f a c => simp only [VRel] at h; obtain ⟨_, _, rfl, _⟩ := h; exact .inr ⟨by simp, by simp⟩
  | yield l => simp only [VRel] at h; obtain ⟨_, _, rfl⟩ := h; exact .inr ⟨by simp, by simp⟩
  | nilFunc => simp only [VRel] at h; subst h; exact .inr ⟨by simp, by simp⟩
  | iface t v => simp only [VRel] at h; obtain ⟨_, rfl, _⟩ := h; exact .inr ⟨by simp, by simp⟩
  | nilIface => simp only [VRel] at h; subst h; exact .inr ⟨by simp, by simp⟩
  | agg cs => simp only [VRel] at h; obtain ⟨_, rfl, _⟩ := h; exact .inr ⟨by simp, by simp⟩
  | tuple cs => simp only [VRel] at h; obtain ⟨_, rfl, _⟩ := h; exact .inr ⟨by simp, by simp⟩

/-- Is an operation wanted? On both sides. -/
theorem wanted_of {tm : T AV} {nt : Nat} {tmps : Array Value} {ops : Array Oper} {o : Oper} (hz : tmps.size = nt)
    (r : ∀ j want g d, o.guard = some (j, want) → ops.toList[j]? = some g → g.dst = some d → ∀ v, tm.get d = some v → d < nt ∧ VRel φ v (tmps.getD d Go.undef)) {c : Bool} (h : wantedV ops.toList o tm = some c) : Region.wanted o (yielded ops tmps) = c := by
  unfold wantedV at h
  unfold Region.wanted
  split at h
  · rename_i hg; cases h; simp [hg]
  · rename_i j want hg
    simp only [Option.bind_eq_bind, Option.bind_eq_some_iff] at h
    obtain ⟨g, hgj, d, hd, v, hv, h⟩ := h
    obtain ⟨hlt, hr⟩ := r j want g d hg hgj hd v hv
    have hgj' : ops[j]? = some g := by simpa using hgj
    have hlt' : d < tmps.size := by rw [hz]; exact hlt
    have hx : tmps[d]? = some (tmps.getD d Go.undef) := by simp [Array.getD, hlt']
    generalize tmps.getD d Go.undef = x at hr hx
    rcases hr.isBool with ⟨b, rfl, rfl⟩ | ⟨h1, h2⟩
    · simp only [Option.some.injEq] at h
      subst h
      simp [hg, yielded, hgj', hd, hx]
    · have hc : c = false := by
        split at h
        · rename_i b; exact absurd rfl (h1 b)
        · simpa using h.symm
      subst hc
      have hy : yielded ops tmps j = none := by
        simp only [yielded, hgj', Option.bind_some, hd, hx]
        split
        · rename_i b heq; cases heq; exact absurd rfl (h2 b)
        · rfl
      simp [hg, hy]
theorem wanted_rel {tm : T AV} {nt : Nat} {tmps : Array Value} (r : TRel φ tm nt tmps) {ops : Array Oper} {o : Oper} {c : Bool} (h : wantedV ops.toList o tm = some c) : Region.wanted o (yielded ops tmps) = c :=
  wanted_of r.size (fun _ _ _ d _ _ _ v hv => r.get d v hv) h

theorem put_rel {cx : Cx} {dst : Option Tmp} {v : AV} {s s' : St} (hp : Av.put cx dst v s = some s') {a : Act} (r : TRel φ s.tm cx.nt a.tmps) {x : Value} (hv : VRel φ v x) :
    TRel φ s'.tm cx.nt (a.put dst x).tmps ∧ (a.put dst x).defers = a.defers ∧ s'.df = s.df ∧ s'.up = s.up ∧ s'.hp = s.hp := by
  cases dst with
  | none => simp only [Av.put, Option.some.injEq] at hp; subst hp; exact ⟨r, rfl, rfl, rfl, rfl⟩
  | some d =>
    simp only [Av.put] at hp
    split at hp
    · rename_i hd
      cases hp
      exact ⟨r.set hd hv, rfl, rfl, rfl, rfl⟩
    · cases hp
theorem one_ok (hE : E.Ok P) {R : Rec} (hR : AllOk P E R) {cx : Cx} {b : Frame} {cs₀ : List Frame} {ops : Array Oper} {o : Oper} {i : Nat} (ho : ops[i]? = some o) {s : St} {q : OR} (h : oneOp E R cx ops.toList o s = some q) {a : Act} {cs : List Frame}
    (hx : XRel φ cx b) (hr : SRel E φ cx b.kind cs₀ s a cs w) (rest : List Nat) (k : List Item) :
    match q with
    | .val _ s' => ∃ φ' a' cs' w', Steps P (lone (b.atR a (.inRegion ops (i :: rest) :: k)) cs w) (lone (b.atR a' (.inRegion ops rest :: k)) cs' w') ∧ SRel E φ' cx b.kind cs₀ s' a' cs' w' ∧ Ext φ s.hp w φ' s'.hp w'
    | .pan c s' => After P E φ s.hp w cx b cs₀ (lone (b.atR a (.inRegion ops (i :: rest) :: k)) cs w) k (.panic c) s' := by
  simp only [oneOp, Option.bind_eq_bind, Option.bind_eq_some_iff] at h
  obtain ⟨c, hc, h⟩ := h
  have hw := wanted_rel hr.tm hc
  cases c with
  | true =>
    simp only [if_true, Option.bind_eq_some_iff] at h
    obtain ⟨q1, hq1, h⟩ := h
    have hop := op_ok hE hR (ops := ops) (i := i) (rest := rest) (k := k) hx (hr.tm.sees _) hr.df hr.up hr.hp hq1 ho hw
    cases q1 with
    | val v s1 =>
      simp only [Option.map_eq_some_iff] at h
      obtain ⟨s2, hs2, rfl⟩ := h
      obtain ⟨htm, φ', ds, cs', w', x, hst, hv, hd, hu, hH, hX⟩ := hop
      have hp := put_rel hs2 (a := { a with defers := ds }) (by rw [htm]; exact hr.tm.mono hX.le) hv
      obtain ⟨p1, p2, p3, p4, p5⟩ := hp
      exact ⟨φ', _, cs', w', hst, ⟨p1, by rw [p2, p3]; exact hd, by rw [p4]; exact hu, by rw [p5]; exact hH⟩, by rw [p5]; exact hX⟩
    | pan pc s1 =>
      cases h
      obtain ⟨htm, φ', ds, cs', w', todo, l, hch, hst, hd, hu, hH, hX⟩ := hop
      exact ⟨φ', _, cs', w', ⟨todo, l, hch, hst⟩, .inr (by rw [htm]; exact hr.tm.mono hX.le), hd, hu, hH, hX⟩
  | false =>
    simp only [Bool.false_eq_true, if_false, Option.map_eq_some_iff] at h
    obtain ⟨s2, hs2, rfl⟩ := h
    have hs := stepR_op_skip (P := P) (b := b) (a := a) (k := k) (cs := cs) (w := w) (ops := ops) (i := i) (rest := rest) (by simp [ho, hw])
    simp only [ho, Option.bind_some] at hs
    obtain ⟨p1, p2, p3, p4, p5⟩ := put_rel hs2 (a := a) hr.tm (x := Go.undef) (by simp [VRel])
    exact ⟨φ, _, cs, w, .one hs, ⟨p1, by rw [p2, p3]; exact hr.df, by rw [p4]; exact hr.up, by rw [p5]; exact hr.hp⟩, by rw [p5]; exact .refl ..⟩
theorem ops_ok (hE : E.Ok P) {R : Rec} (hR : AllOk P E R) {cx : Cx} {b : Frame} {cs₀ : List Frame} {ops : Array Oper} : ∀ (os : List Oper) (i : Nat), ops.toList.drop i = os → ∀ s ex s', opsRun E R cx ops.toList os s = some (ex, s') →
    ∀ φ a cs w k, XRel φ cx b → SRel E φ cx b.kind cs₀ s a cs w → After P E φ s.hp w cx b cs₀ (lone (b.atR a (.inRegion ops (List.range' i os.length) :: k)) cs w) k ex s' := by
  intro os
  induction os with
  | nil =>
    intro i _ s ex s' h φ a cs w k hx hr
    simp only [opsRun, Option.some.injEq, Prod.mk.injEq] at h
    obtain ⟨rfl, rfl⟩ := h
    exact ⟨φ, a, cs, w, .one stepR_region_end, .inr hr.tm, hr.df, hr.up, hr.hp, .refl ..⟩
  | cons o os ih =>
    intro i hdrop s ex s' h φ a cs w k hx hr
    have ho : ops[i]? = some o := by
      rw [← Array.getElem?_toList]
      have := congrArg (·[0]?) hdrop
      simpa using this
    have hdrop' : ops.toList.drop (i + 1) = os := by
      rw [← List.drop_drop, hdrop]; rfl
    simp only [opsRun, Option.bind_eq_bind, Option.bind_eq_some_iff] at h
    obtain ⟨q, hq, h⟩ := h
    have h1 := one_ok hE hR ho hq hx hr (List.range' (i + 1) os.length) k
    cases q with
    | val v s1 =>
      obtain ⟨φ', a', cs', w', hst, hr', hX⟩ := h1
      exact After.of_steps hr.hp hX hst (ih (i + 1) hdrop' s1 ex s' h φ' a' cs' w' k (hx.mono hX.le) hr')
    | pan c s1 =>
      cases h
      exact h1

/-! ### A range over a function -/
theorem enter_rel (H : HRel E φ h w) {tm : T AV} {cx : Cx} {b : Frame} (hx : XRel φ cx b) {a : Act} (hr : TRel φ tm cx.nt a.tmps) {df : Nat} {D : Loc} (hD : φ df = some D) (ps : Array Tmp) (assign body : Code) :
    HRel E (φ.with h.next ⟨w.heap.size, 0, 0⟩) (newBlk h (.loop .ready none cx.fn cx.nt tm ps.toList assign body df)) (w.alloc (.loop { state := .ready, pending := none, fn := b.fn, tmps := a.tmps, params := ps, assign, body, defers := D.b })) ∧
    Ext φ h w (φ.with h.next ⟨w.heap.size, 0, 0⟩) (newBlk h (.loop .ready none cx.fn cx.nt tm ps.toList assign body df)) (w.alloc (.loop { state := .ready, pending := none, fn := b.fn, tmps := a.tmps, params := ps, assign, body, defers := D.b })) := by
  have hle := Phi.le_with (L := ⟨w.heap.size, 0, 0⟩) (H.none (Nat.le_refl h.next))
  exact HRel.push H _ _ ⟨w.heap.size, 0, 0⟩ rfl ⟨_, rfl, rfl, rfl, hx.fn, hr.mono hle, rfl, rfl, rfl, D, hle _ _ hD, rfl⟩
/-- The loop's record is laid: the call, and behind it. -/
theorem range_go {R : Rec} (hR : AllOk P E R) {cx : Cx} {b : Frame} {cs₀ : List Frame} {g : FuncId} {first captured : List AV} {ps : Array Tmp} {assign body : Code} {df : Nat} {s : St} {ex : Ex} {s' : St}
    (h : rangeGo R cx g first captured ps.toList assign body df s = some (ex, s')) {a : Act} {cs : List Frame} (hx : XRel φ cx b) (hr : SRel E φ cx b.kind cs₀ s a cs w) {D : Loc} (hD : φ df = some D) {f' c' : Array Value} (hf : VRels φ first f'.toList) (hc : VRels φ captured c'.toList)
    {m : Machine} {k : List Item}
    (hm : step P m = .next (lone (Frame.enter P g (f' ++ #[.func (.yield w.heap.size) #[] #[]] ++ c') .normal) (b.atR a (.inRangeFunc w.heap.size :: k) :: cs)
      (w.alloc (.loop { state := .ready, pending := none, fn := b.fn, tmps := a.tmps, params := ps, assign, body, defers := D.b })))) :
    After P E φ s.hp w cx b cs₀ m k ex s' := by
  obtain ⟨hH1, hX1⟩ := enter_rel hr.hp hx hr.tm hD ps assign body
  simp only [rangeGo, Option.bind_eq_bind, Option.bind_eq_some_iff] at h
  obtain ⟨q, hq, h⟩ := h
  have hy : VRel (φ.with s.hp.next ⟨w.heap.size, 0, 0⟩) (.yield s.hp.next) (.func (.yield w.heap.size) #[] #[]) := by
    simp only [VRel]; exact ⟨⟨w.heap.size, 0, 0⟩, by simp [Phi.with], rfl⟩
  have hcall := hR.call _ _ _ _ _ hq _ .normal (b.atR a (.inRangeFunc w.heap.size :: k) :: cs) (b.atR a (.inRangeFunc w.heap.size :: k) :: cs) _ (f' ++ #[.func (.yield w.heap.size) #[] #[]] ++ c')
    (by rw [Array.toList_append, Array.toList_append]; exact ((hf.mono hX1.le).append (.cons hy .nil)).append (hc.mono hX1.le)) ⟨rfl, rfl⟩ hH1
  obtain ⟨φ2, fr, cs2, w2, hst, hg, hu, hH2, hX2⟩ := hcall
  have hX := Ext.trans hr.hp hX1 hX2
  obtain rfl : cs2 = b.atR a (.inRangeFunc w.heap.size :: k) :: cs := by
    cases hup : q.up with
    | none => rw [hup] at hu; exact hu.2
    | some m => rw [hup] at hu; exact absurd hu.1 (by simp)
  cases q with
  | ret v up h2 =>
    obtain ⟨_, hk, hmo, hd, fn, y, hfn, hy', hyr⟩ := hg
    have hs2 := step_leave_returned (P := P) (c := b.atR a (.inRangeFunc w.heap.size :: k)) (cs := cs) (w := w2) (v := y) (fr := fr) ⟨hmo, hd, hk, fn, hfn, hy'⟩
    rw [finish_atR_inRangeFunc] at hs2
    have h : endRange s s.hp.next h2 = some (ex, s') := h
    simp only [endRange, Option.bind_eq_bind, Option.bind_eq_some_iff] at h
    obtain ⟨bk, hb, h⟩ := h
    split at h
    rotate_left
    · cases h
    rename_i st pd fn2 nt2 tm2 ps2 as2 bd2 df2
    have hp2 : φ2 s.hp.next = some ⟨w.heap.size, 0, 0⟩ := hX2.le _ _ (by simp [Phi.with])
    obtain ⟨lp2, hl2, hg2, hset2, g1, g2, _⟩ := loop_obj (P := P) hH2 hb hp2
    obtain ⟨hH3, hX3⟩ := loop_turn hH2 hb hp2 hl2 .exhausted pd
    split at h
    · cases h
    · rename_i hbusy
      have hend : (Instr.endLoop w.heap.size).run P w2 = .ok pd (setW w2 w.heap.size (.loop { lp2 with state := .exhausted, pending := pd })) := by
        have e1 : ({ lp2 with state := .exhausted, pending := pd } : Loop) = { lp2 with state := .exhausted } := by rw [← g2]
        have e2 : (lp2.state == LoopState.busy) = false := by rw [g1]; simpa using hbusy
        simp only at hg2 hset2
        rw [e1]
        simp only [Instr.endLoop, Sem.run_bind, hg2, Result.andThen_ok, e2, hset2, Sem.run_pure, Bool.false_eq_true, if_false, g2]
      have hs3 := stepR_endRangeFunc (b := b) (a := a) (k := k) (cs := cs) hend
      have hsteps : Steps P m (lone (b.atR a ((pd.map Item.code).toList ++ k)) cs (setW w2 w.heap.size (.loop { lp2 with state := .exhausted, pending := pd }))) :=
        .head hm (hst.trans (.head hs2 (.one hs3)))
      have hX' := Ext.trans hr.hp hX hX3
      have base : ∀ {ex'}, Goes P φ2 m b k a cs (setW w2 w.heap.size (.loop { lp2 with state := .exhausted, pending := pd })) ex' → After P E φ s.hp w cx b cs₀ m k ex' (s.at ⟨h2.b.set s.hp.next (.loop .exhausted pd fn2 nt2 tm2 ps2 as2 bd2 df2), h2.next⟩) := by
        intro ex' hgo
        exact ⟨φ2, a, cs, _, hgo, .inr (hr.tm.mono hX'.le), hr.df.mono hX'.le, hr.up.mono hX'.le, hH3, hX'⟩
      cases pd with
      | none => cases h; exact base hsteps
      | some j =>
        simp only [Option.map_eq_some_iff] at h
        obtain ⟨ex', hj, h⟩ := h
        cases h
        cases j <;> simp only [exOf, Option.some.injEq, reduceCtorEq] at hj
        · rename_i id; subst hj; exact base ⟨k, rfl, hsteps⟩
        · rename_i l; subst hj; exact base ⟨k, rfl, hsteps⟩
        · subst hj; exact base ⟨k, hsteps⟩
  | pan pc up h2 =>
    cases h
    obtain ⟨_, hk, hd, ⟨fn, hfn⟩, l, hmo, hch⟩ := hg
    have hs2 := step_leave_panicked (P := P) (c := b.atR a (.inRangeFunc w.heap.size :: k)) (cs := cs) (w := w2) (chain := l) (fr := fr) ⟨hmo, hd, fn, hfn⟩
    rw [Frame.raise_atR] at hs2
    exact ⟨φ2, a, cs, w2, ⟨_, l, hch, .head hm (hst.trans (.one hs2))⟩, .inr (hr.tm.mono hX.le), hr.df.mono hX.le, hr.up.mono hX.le, hH2, hX⟩
theorem range_ok (hE : E.Ok P) {R : Rec} (hR : AllOk P E R) {cx : Cx} {b : Frame} {cs₀ : List Frame} {f : Operand} {ps : Array Tmp} {assign body : Code} {s : St} {ex : Ex} {s' : St} (h : rangeV R cx f ps.toList assign body s = some (ex, s'))
    {a : Act} {cs : List Frame} (hx : XRel φ cx b) (hr : SRel E φ cx b.kind cs₀ s a cs w) (k : List Item) : After P E φ s.hp w cx b cs₀ (lone (b.atR a (.code (.rangeFunc f ps assign body) :: k)) cs w) k ex s' := by
  simp only [rangeV, Option.bind_eq_bind, Option.bind_eq_some_iff] at h
  obtain ⟨fv, hfv, h⟩ := h
  have hxr := ev_rel hr.tm hfv
  cases fv with
  | func g first captured =>
    simp only [VRel] at hxr
    obtain ⟨f', c', hf0, hf', hc'⟩ := hxr
    have hres : ∀ (l : Nat) (w1 : World), (resolve a.eval (rangeCall f l) 0).run P w1 = .ok { target := .fn (.func g) c', args := f' ++ #[.func (.yield l) #[] #[]] } w1 := by
      intro l w1
      have e : (#[Operand.const (.func (.yield l) #[] #[])] : Array Operand).map a.eval = #[.func (.yield l) #[] #[]] := by simp [Act.eval]
      simp only [resolve, hf0, Deferred.ofValue, e, Sem.run_pure]
    have hinv : (∃ fn, E.fn.get g = some fn ∧ fn.body.isSome = true) → ∀ (l : Nat) (w1 : World), (invoke (.fn (.func g) c') (f' ++ #[.func (.yield l) #[] #[]])).run P w1 = .ok (.enter g (f' ++ #[.func (.yield l) #[] #[]] ++ c')) w1 := by
      rintro ⟨gn, hgn, hgb⟩ l w1
      have h1 := hE.fn g gn hgn
      have h2 := hE.name g gn hgn hgb
      cases hbd : gn.body with
      | none => rw [hbd] at hgb; cases hgb
      | some bd => simp [invoke, callFunc, h1, h2, hbd]
    have has : ∀ {df : Nat} {s1 : St}, rangeGo R cx g first captured ps.toList assign body df s1 = some (ex, s') → ∃ fn, E.fn.get g = some fn ∧ fn.body.isSome = true := by
      intro df s1 h
      simp only [rangeGo, Option.bind_eq_bind, Option.bind_eq_some_iff] at h
      obtain ⟨q, hq, _⟩ := h
      exact hR.has _ _ _ _ _ hq
    simp only at h
    cases hround : cx.round with
    | none =>
      rw [hround] at h
      have hro : b.roundOf = none := by have := hx.round; rw [hround] at this; exact this
      have hle := Phi.le_with (L := ⟨w.heap.size, 0, 0⟩) (hr.hp.none (Nat.le_refl s.hp.next))
      obtain ⟨hH1, hX1⟩ := HRel.push hr.hp .deferred (.deferred (some [])) ⟨w.heap.size, 0, 0⟩ rfl rfl
      have hD : (φ.with s.hp.next ⟨w.heap.size, 0, 0⟩) s.hp.next = some ⟨w.heap.size, 0, 0⟩ := by simp [Phi.with]
      have henter : (Instr.enterLoop b.fn a.tmps ps assign body b.roundOf).run P w =
          .ok ((w.alloc (.deferred (some []))).heap.size, [{ target := .collected w.heap.size, args := #[] }]) ((w.alloc (.deferred (some []))).alloc (.loop { state := .ready, pending := none, fn := b.fn, tmps := a.tmps, params := ps, assign, body, defers := w.heap.size })) := by
        rw [hro]
        simp [Instr.enterLoop]
      have hs := stepR_rangeFunc (P := P) (b := b) (a := a) (k := k) (cs := cs) henter (hres _ _) (hinv (has h) _ _)
      refine After.of_steps hr.hp hX1 (Steps.refl ..) (range_go hR h (hx.mono hX1.le) (w := w.alloc (.deferred (some []))) (a := { a with defers := [{ target := .collected w.heap.size, args := #[] }] ++ a.defers }) (cs := cs)
        ⟨hr.tm.mono hX1.le, ⟨⟨w.heap.size, 0, 0⟩, a.defers, rfl, hD, hr.df.mono hX1.le⟩, hr.up.mono hX1.le, hH1⟩ hD (hf'.mono hX1.le) (hc'.mono hX1.le) hs)
    | some l =>
      rw [hround] at h
      simp only [Option.bind_eq_some_iff] at h
      obtain ⟨bk, hb, h⟩ := h
      split at h
      rotate_left
      · cases h
      obtain ⟨L, hL, hro⟩ : ∃ L, φ l = some L ∧ b.roundOf = some L.b := by have := hx.round; rw [hround] at this; exact this
      obtain ⟨lp, hl, hg, _, _, _, _, _, _, _, _, D, hD, hlD⟩ := loop_obj (P := P) hr.hp hb hL
      have henter : (Instr.enterLoop b.fn a.tmps ps assign body b.roundOf).run P w =
          .ok (w.heap.size, []) (w.alloc (.loop { state := .ready, pending := none, fn := b.fn, tmps := a.tmps, params := ps, assign, body, defers := D.b })) := by
        rw [hro]
        simp [Instr.enterLoop, hg, hlD]
      have hs := stepR_rangeFunc (P := P) (b := b) (a := a) (k := k) (cs := cs) henter (hres _ _) (hinv (has h) _ _)
      exact range_go hR h hx hr hD hf' hc' hs
  | _ => simp at h
end
end Go.Av

/- The machine beside the evaluator: code as a whole; the regions that draw their order are left as a premise. -/
namespace Go.Av
section
variable {P : Program} {E : Env} {φ ψ : Phi} {h : Heap} {w : World}

/-- A region that draws its order: however it is drawn. -/
def DrawOk (P : Program) (E : Env) (R : Rec) : Prop := ∀ cx (b : Frame) cs₀ (ops : Array Oper) s ex s', drawV E R cx ops.toList s = some (ex, s') → ∀ φ a cs w k (t : Nat), XRel φ cx b → SRel E φ cx b.kind cs₀ s a cs w →
  After P E φ s.hp w cx b cs₀ (lone (b.atR a (.inRegion ops (Region.linearise .any ops t) :: k)) cs w) k ex s'

/-- A loop, from its body on. -/
theorem loop_body {R : Rec} (hR : AllOk P E R) {cx : Cx} {x : Code} {s : St} {ex : Ex} {s' : St} (h : codeStep E R cx (.loop x) s = some (ex, s')) {b : Frame} {a : Act} {cs₀ cs : List Frame} (hx : XRel φ cx b) (hr : SRel E φ cx b.kind cs₀ s a cs w) (k : List Item)
    {m : Machine} (hm : Steps P m (lone (b.atR a (.code x :: .inLoop x :: k)) cs w)) : After P E φ s.hp w cx b cs₀ m k ex s' := by
  simp only [codeStep, Option.bind_eq_bind, Option.bind_eq_some_iff] at h
  obtain ⟨⟨ex1, s1⟩, h1, h⟩ := h
  have ha := hR.code _ _ _ _ _ h1 φ b a cs₀ cs w (.inLoop x :: k) hx hr
  have ha := After.of_steps hr.hp (.refl ..) hm ha
  cases ex1 with
  | normal =>
    obtain ⟨φ1, a1, cs1, w1, hst, hr1, hX1⟩ := ha.normal
    exact After.of_steps hr.hp hX1 hst (hR.loop _ _ _ _ _ h φ1 b a1 cs₀ cs1 w1 k (hx.mono hX1.le) hr1)
  | exit id => cases h; exact ha.pass (by simp) (by intro id h; simp [exitTo]) (by intro l h; cases h)
  | goto l => cases h; exact ha.pass (by simp) (by intro id h; cases h) (by intro l h; simp [gotoIn])
  | ret => cases h; exact ha.pass (by simp) (by intro id h; cases h) (by intro l h; cases h)
  | panic c => cases h; exact ha.pass (by simp) (by intro id h; cases h) (by intro l h; cases h)
theorem loop_ok {R : Rec} (hR : AllOk P E R) : LoopOk P E (stepR E R) := by
  intro cx x s ex s' h φ b a cs₀ cs w k hx hr
  exact loop_body hR h hx hr k (.one stepR_inLoop)
theorem code_ok (hE : E.Ok P) {R : Rec} (hR : AllOk P E R) (hD : DrawOk P E R) : CodeOk P E (stepR E R) := by
  intro cx c s ex s' h φ b a cs₀ cs w k hx hr
  have h : codeStep E R cx c s = some (ex, s') := h
  cases c with
  | skip =>
    simp only [codeStep, Option.some.injEq, Prod.mk.injEq] at h
    obtain ⟨rfl, rfl⟩ := h
    exact ⟨φ, a, cs, w, .one stepR_skip, .inr hr.tm, hr.df, hr.up, hr.hp, .refl ..⟩
  | label l =>
    simp only [codeStep, Option.some.injEq, Prod.mk.injEq] at h
    obtain ⟨rfl, rfl⟩ := h
    exact ⟨φ, a, cs, w, .one stepR_label, .inr hr.tm, hr.df, hr.up, hr.hp, .refl ..⟩
  | exit id =>
    simp only [codeStep, Option.some.injEq, Prod.mk.injEq] at h
    obtain ⟨rfl, rfl⟩ := h
    exact ⟨φ, a, cs, w, ⟨k, rfl, .refl ..⟩, .inr hr.tm, hr.df, hr.up, hr.hp, .refl ..⟩
  | goto l =>
    simp only [codeStep, Option.some.injEq, Prod.mk.injEq] at h
    obtain ⟨rfl, rfl⟩ := h
    exact ⟨φ, a, cs, w, ⟨k, rfl, .refl ..⟩, .inr hr.tm, hr.df, hr.up, hr.hp, .refl ..⟩
  | ret =>
    simp only [codeStep, Option.some.injEq, Prod.mk.injEq] at h
    obtain ⟨rfl, rfl⟩ := h
    exact ⟨φ, a, cs, w, ⟨k, .refl ..⟩, .inr hr.tm, hr.df, hr.up, hr.hp, .refl ..⟩
  | refuse why => cases h
  | region id ops draw =>
    cases draw with
    | false =>
      have h : opsRun E R cx ops.toList ops.toList s = some (ex, s') := h
      have := ops_ok hE hR ops.toList 0 (by simp) s ex s' h φ a cs w k hx hr (cs₀ := cs₀) (b := b)
      refine After.of_steps hr.hp (.refl ..) (.one stepR_region) ?_
      rw [List.range_eq_range']
      simpa using this
    | true =>
      have h : drawV E R cx ops.toList s = some (ex, s') := h
      have hs := stepR_region_draw (P := P) (b := b) (a := a) (k := k) (cs := cs) (w := w) (ops := ops) (id := id)
      simp only [Region.schedule, hE.mixed, Bool.true_or, if_true] at hs
      have hr' : SRel E φ cx b.kind cs₀ s a cs { w with drawn := w.drawn + 1 } := ⟨hr.tm, hr.df, hr.up, hr.hp.drew _⟩
      exact After.of_steps hr.hp (.drew _) (.one hs) (hD cx b cs₀ ops s ex s' h φ a cs _ k _ hx hr')
  | seq x y =>
    simp only [codeStep, Option.bind_eq_bind, Option.bind_eq_some_iff] at h
    obtain ⟨⟨ex1, s1⟩, h1, h⟩ := h
    have ha := hR.code _ _ _ _ _ h1 φ b a cs₀ cs w (.code y :: k) hx hr
    have ha := After.of_steps hr.hp (.refl ..) (.one stepR_seq) ha
    cases ex1 with
    | normal =>
      obtain ⟨φ1, a1, cs1, w1, hst, hr1, hX1⟩ := ha.normal
      exact After.of_steps hr.hp hX1 hst (hR.code _ _ _ _ _ h φ1 b a1 cs₀ cs1 w1 k (hx.mono hX1.le) hr1)
    | exit id => cases h; exact ha.pass (by simp) (by intro id h; simp [exitTo]) (by intro l h; cases h)
    | goto l => cases h; exact ha.pass (by simp) (by intro id h; cases h) (by intro l h; simp [gotoIn])
    | ret => cases h; exact ha.pass (by simp) (by intro id h; cases h) (by intro l h; cases h)
    | panic c => cases h; exact ha.pass (by simp) (by intro id h; cases h) (by intro l h; cases h)
  | cond c x y =>
    simp only [codeStep, Option.bind_eq_bind, Option.bind_eq_some_iff] at h
    obtain ⟨v, hv, h⟩ := h
    have hvr := ev_rel hr.tm hv
    cases v with
    | bool t =>
      simp only [VRel] at hvr
      refine After.of_steps hr.hp (.refl ..) (.one (stepR_cond hvr)) ?_
      cases t with
      | true => exact hR.code _ _ _ _ _ h φ b a cs₀ cs w k hx hr
      | false => exact hR.code _ _ _ _ _ h φ b a cs₀ cs w k hx hr
    | _ => simp at h
  | block id x =>
    simp only [codeStep, Option.bind_eq_bind, Option.bind_eq_some_iff] at h
    obtain ⟨⟨ex1, s1⟩, h1, h⟩ := h
    have ha := hR.code _ _ _ _ _ h1 φ b a cs₀ cs w (.inBlock id :: k) hx hr
    have ha := After.of_steps hr.hp (.refl ..) (.one stepR_block) ha
    cases ex1 with
    | normal =>
      cases h
      obtain ⟨φ1, a1, cs1, w1, g1, g2⟩ := ha
      exact ⟨φ1, a1, cs1, w1, g1.trans (.one stepR_inBlock), g2⟩
    | exit j =>
      by_cases hj : j = id
      · simp only [hj, if_true, Option.some.injEq, Prod.mk.injEq] at h
        obtain ⟨rfl, rfl⟩ := h
        subst hj
        obtain ⟨φ1, a1, cs1, w1, ⟨k1, hk, hst⟩, g2, g3⟩ := ha
        have hk' : exitTo j k1 = some k := by rw [hk]; simp [exitTo]
        exact ⟨φ1, a1, cs1, w1, hst.trans (.one (stepR_exit hk')), .inr (g2.resolve_left (by rintro ⟨⟨c, hc⟩, _⟩; cases hc)), g3⟩
      · simp only [hj, if_false, Option.some.injEq, Prod.mk.injEq] at h
        obtain ⟨rfl, rfl⟩ := h
        refine ha.pass (by simp) ?_ (by intro l h; cases h)
        intro id' h'
        cases h'
        have : (id == j) = false := by simp; exact fun e => hj e.symm
        simp [exitTo, this]
    | goto l => cases h; exact ha.pass (by simp) (by intro id h; cases h) (by intro l h; simp [gotoIn])
    | ret => cases h; exact ha.pass (by simp) (by intro id h; cases h) (by intro l h; cases h)
    | panic c => cases h; exact ha.pass (by simp) (by intro id h; cases h) (by intro l h; cases h)
  | loop x => exact loop_body hR h hx hr k (.one stepR_loop)
  | rangeFunc f ps assign body => exact range_ok hE hR h hx hr k
  | scope B =>
    have h : R.scope cx B B s = some (ex, s') := h
    exact After.of_steps hr.hp (.refl ..) (.one stepR_scope) (hR.scope _ _ _ _ _ _ h φ b a cs₀ cs w k hx hr)
theorem step_ok (hE : E.Ok P) {R : Rec} (hR : AllOk P E R) (hD : DrawOk P E R) : AllOk P E (stepR E R) :=
  ⟨code_ok hE hR hD, scope_ok hR, call_ok hE hR, leave_ok hE hR, call_has, loop_ok hR⟩
end
end Go.Av
