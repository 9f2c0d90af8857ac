/- Each operation does in the model's memory what it does in the abstract state: copies, conversions. -/
import Derived.Test.YtnklglbnblbbeaaEvSt
import Derived.Test.YtnklglbnblbbeaaEvOps10
import Derived.Lib.ConvBytes
import Derived.Laws.BytesString
import Derived.Laws.BytesArg
namespace Go.Ev

noncomputable section

section
variable {P : Program} {w : World} {E : Env} {st : St}

theorem ovr_nil {α : Type} (l : List α) (o : Nat) : ovr l o ([] : List α) = l := by
  induction l generalizing o with
  | nil => cases o <;> simp [ovr, over]
  | cons x l ih => cases o <;> simp [ovr, over, ih]

theorem setSame {H : Array Obj} {b : Nat} {o : Obj} (h : H[b]? = some o) : H.setIfInBounds b o = H := by
  apply Array.ext_getElem?
  intro j
  by_cases e : b = j
  · subst e
    rw [Array.getElem?_setIfInBounds_self]
    rw [h]
    have : b < H.size := by
      rcases Nat.lt_or_ge b H.size with hh | hh
      · exact hh
      · rw [Array.getElem?_eq_none hh] at h; cases h
    simp [this]
  · rw [Array.getElem?_setIfInBounds_ne e]

theorem firstCells_len {z n m : Nat} {x : AV} {l : List AV} (hf : firstCells st z n x = some l) (hm : lenOf x = some m) (hn : n ≤ m) : l.length = n * z := by
  cases x <;> simp only [firstCells] at hf <;> first | (cases hf; done) | skip
  · rename_i s
    obtain ⟨hz, hf⟩ := bor hf
    rw [nbeq, decide_eq_true_eq] at hz
    subst hf hz
    cases hm
    simp; omega
  · by_cases h0 : n = 0
    · subst h0; cases hf; simp
    · rw [nbeq, decide_eq_false h0] at hf
      simp only [rd] at hf
      split at hf
      · exact cut_length hf
      · cases hf
  · obtain ⟨h0, hf⟩ := bor hf
    rw [nbeq, decide_eq_true_eq] at h0
    subst h0; cases hf; simp
  · exact cut_length hf

theorem copy_spec (h : Rel E w.heap st) {ts : List TypeId} {d x v : AV} {ud ux : Value} {st' : St} (hc : bCopy P st ts [d, x] = some (v, st')) (hd : Conc E d ud) (hx : Conc E x ux) (ty : TypeId) :
    ∃ w' z, (Builtin.copy_ ts.toArray ty #[ud, ux]).run P w = .ok z w' ∧ StepW E E w w' st st' ∧ Conc E v z := by
  cases ts with
  | nil => cases hc
  | cons t r =>
    simp only [bCopy] at hc
    cases he : elOf P t with
    | none => rw [he] at hc; cases hc
    | some e =>
      cases hl : lenOf x with
      | none => rw [he, hl] at hc; cases hc
      | some n =>
        rw [he, hl] at hc
        simp only at hc
        obtain ⟨hi, hc⟩ := brec hc
        have hu := elOf_spec he
        have hlen := lenOf_spec (P := P) (w := w) hl hx
        unfold copyV at hc
        split at hc
        · rename_i r0 o m z' c _
          unfold copyTo at hc
          split at hc
          · rename_i l hf
            obtain ⟨hz, hc2⟩ := brec hc
            clear hc
            rw [nbeq, decide_eq_true_eq] at hz
            subst hz
            split at hc2
            · rename_i st1 hw
              cases hc2
              obtain ⟨us, hus, hcl⟩ := firstCells_spec (P := P) h hf hx hl (Nat.min_le_left n m)
              obtain ⟨B, cs, t0, fz, hB, hH, hfz, hroom, hone, hst⟩ := Step.wt h hw hcl
              have hul : us.length = min n m * szOf P e := by rw [← hcl.length]; exact firstCells_len hf hl (Nat.min_le_left n m)
              have hmin : Nat.min n m = min n m := rfl
              have key : ∀ (a : Addr) (k : Nat), (us = [] ∨ a = ⟨B.b, o + B.d, none⟩) → (Builtin.copy_ (t :: r).toArray ty #[.slice (some a) m k, ux]).run P w = .ok (.int .i64 ((min n m : Nat) : Int)) { w with heap := w.heap.setIfInBounds B.b (.cells (ovr cs (o + B.d) us).toArray t0 fz) } := by
                intro a k ha
                have hs : (storeCells a us).run P w = .ok () { w with heap := w.heap.setIfInBounds B.b (.cells (ovr cs (o + B.d) us).toArray t0 fz) } := by
                  rcases ha with rfl | rfl
                  · rw [ovr_nil, setSame hH]; rfl
                  · have := run_storeCells_row P B.b (o + B.d) t0 fz us 0 cs w hH hfz.not (by simpa using hroom) hone
                    simpa using this
                simp only [Builtin.copy_, List.getElem?_toArray, List.getElem?_cons_zero, List.getElem?_cons_succ, Sem.run_bind, run_under hu, Result.andThen_ok, hlen, hmin, run_size hi, hus, hs, Sem.run_pure]
                rfl
              have hus0 : m = 0 → us = [] := by
                rintro rfl
                apply List.eq_nil_of_length_eq_zero; rw [hul]; simp
              cases hd with
              | slk _ _ _ _ c' a hn hh =>
                refine ⟨_, _, key a c' ?_, .of hst, .i .i64 _⟩
                rcases hh with rfl | ⟨B', hB', rfl⟩
                · exact .inl (hus0 (by omega))
                · rw [hB] at hB'; cases hB'; exact .inr rfl
              | slu _ _ _ _ c' a hn hh =>
                refine ⟨_, _, key a c' ?_, .of hst, .i .i64 _⟩
                rcases hh with rfl | ⟨B', hB', rfl, -⟩
                · exact .inl (hus0 (by omega))
                · rw [hB] at hB'; cases hB'; exact .inr rfl
            · cases hc2
          · cases hc
        · cases hc
          cases hd
          have hus : ∃ us : Array Value, (Builtin.firstCells (szOf P e) 0 ux).run P w = .ok us w := by
            cases hx <;> first | (cases hl; done) | skip
            all_goals (simp only [Builtin.firstCells, Nat.zero_mul]; exact ⟨_, rfl⟩)
          obtain ⟨us, hus⟩ := hus
          refine ⟨w, .int .i64 ((0 : Nat) : Int), ?_, .refl h, .i .i64 _⟩
          simp only [Builtin.copy_, List.getElem?_toArray, List.getElem?_cons_zero, List.getElem?_cons_succ, Sem.run_bind, run_under hu, Result.andThen_ok, hlen, Nat.min_zero, show Nat.min n 0 = 0 from Nat.min_zero n, run_size hi, hus, Sem.run_pure]
          rfl
        · cases hc

theorem byteOf_all : ∀ {l : List AV} {bs : List Nat} {us : List Value}, pmapO byteOf l = some bs → ConcL E l us → us = bs.map (fun n => .int .u8 (Int.ofNat n)) ∧ ∀ b ∈ bs, b < 256
  | [], bs, us, h, hc => by cases h; cases hc; exact ⟨rfl, by simp⟩
  | v :: l, bs, us, h, hc => by
    cases hc with
    | cons _ _ u us hv ht =>
    simp only [pmapO] at h
    cases hb : byteOf v with
    | none => rw [hb] at h; cases h
    | some n =>
      rw [hb] at h
      simp only at h
      cases hp : pmapO byteOf l with
      | none => rw [hp] at h; cases h
      | some r =>
        rw [hp] at h; cases h
        obtain ⟨this, hall⟩ := byteOf_all hp ht
        subst this
        unfold byteOf at hb
        split at hb
        · obtain ⟨h1, h2⟩ := bor hb
          subst h2
          cases hv
          refine ⟨rfl, ?_⟩
          intro b hb
          rcases List.mem_cons.1 hb with rfl | hb
          · simpa [Nat.blt_eq] using h1
          · exact hall b hb
        · cases hb

/-- A text of bytes. -/
def textOf (bs : List Nat) : ByteArray := ⟨(bs.map fun n => UInt8.ofNat n).toArray⟩

theorem textOf_conc {bs : List Nat} (h : ∀ b ∈ bs, b < 256) : Conc E (.s bs) (.string (textOf bs)) := by
  have : (textOf bs).data.toList.map UInt8.toNat = bs := by
    simp only [textOf, List.map_map]
    conv => rhs; rw [← List.map_id bs]
    apply List.map_congr_left
    intro b hb
    have := h b hb
    simp only [Function.comp, UInt8.toNat_ofNat', id]
    omega
  have hc := Conc.s (E := E) (textOf bs)
  rwa [this] at hc

theorem bytesStr_spec (h : Rel E w.heap st) {x v : AV} {u : Value} {st' : St} (hs : bytesStr st x = some (v, st')) (hx : Conc E x u) (hne : ∀ l, x ≠ .s l) :
    st' = st ∧ (∃ a l c, u = .slice a l c) ∧ ∃ z, (Conv.bytesToString u).run P w = .ok z w ∧ Conc E v z := by
  unfold bytesStr at hs
  split at hs
  · cases hs
    cases hx
    refine ⟨rfl, ⟨_, _, _, rfl⟩, .string .empty, rfl, ?_⟩
    exact textOf_conc (E := E) (bs := []) (by simp)
  · split at hs
    · rename_i n hl
      unfold strOf at hs
      split at hs
      · rename_i l hf
        split at hs
        · rename_i bs hp
          cases hs
          obtain ⟨us, h1, h2⟩ := firstCells_spec (P := P) h hf hx hl (Nat.le_refl _)
          obtain ⟨rfl, hall⟩ := byteOf_all hp h2
          have key : ∀ a c, u = .slice (some a) n c → (∃ a l c, u = .slice a l c) ∧ ∃ z, (Conv.bytesToString u).run P w = .ok z w ∧ Conc E (.s bs) z := by
            rintro a c rfl
            simp only [Builtin.firstCells, Nat.mul_one] at h1
            have := run_bytesToString (P := P) w a n c (bs.map Int.ofNat) (by rw [h1]; congr 2; simp)
            refine ⟨⟨_, _, _, rfl⟩, _, this, ?_⟩
            rw [foldl_push_bytes]
            have e : (⟨ByteArray.empty.data ++ ((bs.map Int.ofNat).map fun n => UInt8.ofNat n.toNat).toArray⟩ : ByteArray) = textOf bs := by
              have h0 : ByteArray.empty.data = #[] := rfl
              rw [h0, Array.empty_append, List.map_map]
              rfl
            rw [e]
            exact textOf_conc hall
          cases hx <;> first | (cases hl; done) | (exact absurd rfl (hne _)) | skip
          all_goals (cases hl; try exact ⟨rfl, key _ _ rfl⟩)
          exact (‹AV.sn = AV.sn → False› rfl).elim
        · cases hs
      · cases hs
    · cases hs

theorem bytesHeap (e : TypeId) (s : ByteArray) : (Lib.bytesWorld w e s).heap = w.heap.push (.cells (Lib.bytesCells w e s) e ((Lib.bytesCells w e s).size, (Lib.bytesCells w e s).size + 1)) := by
  apply Array.ext_getElem?
  intro j
  rw [Array.getElem?_push]
  by_cases hj : j = w.heap.size
  · subst hj; rw [Lib.bytesWorld_at_new, if_pos rfl]
  · rw [if_neg hj]
    rcases Nat.lt_or_ge j w.heap.size with hh | hh
    · exact Lib.bytesWorld_at_old w e s j hh
    · rw [Array.getElem?_eq_none (by rw [Lib.bytesWorld_size]; omega), Array.getElem?_eq_none hh]

theorem modify_set {H : Array Obj} {b : Nat} {o : Obj} {f : Obj → Obj} (h : H[b]? = some o) : H.modify b f = H.setIfInBounds b (f o) := by
  apply Array.ext_getElem?
  intro j
  have hlt := (Array.getElem?_eq_some_iff.1 h).1
  by_cases e : j = b
  · subst e
    rw [Array.getElem?_modify, Array.getElem?_setIfInBounds_self_of_lt hlt]
    simp [h]
  · rw [Array.getElem?_modify, Array.getElem?_setIfInBounds_ne (Ne.symm e)]
    rw [if_neg (fun h => e h.symm)]

/-- How far behind a block what is frozen there reaches, once the cell behind it is too. -/
def frostOf (n : Nat) (fz : Nat × Nat) : Nat × Nat := if fz.1 == fz.2 then (n, n + 1) else (min fz.1 n, max fz.2 (n + 1))

theorem frostOf_ok {n : Nat} {fz : Nat × Nat} (h : FzOk n fz) : FzOk n (frostOf n fz) := by
  unfold frostOf
  rcases h with h | h
  · rw [if_pos (by simpa using h)]; exact .inr (Nat.le_refl _)
  · split
    · exact .inr (Nat.le_refl _)
    · exact .inr (by simp; omega)

theorem run_mark {w : World} {b o : Nat} {cs : Array Value} {t : TypeId} {fz : Nat × Nat} (h : w.heap[b]? = some (.cells cs t fz)) :
    (markStringish ⟨b, o, none⟩).run P w = .ok () { w with heap := w.heap.setIfInBounds b (.cells cs t (frostOf cs.size fz)) } := by
  have hs : w.shape? b = some (t, cs.size) := by simp [World.shape?, h]
  have hf : w.freeze ⟨b, cs.size, none⟩ 1 = { w with heap := w.heap.setIfInBounds b (.cells cs t (frostOf cs.size fz)) } := by
    unfold World.freeze
    rw [if_neg (by decide), modify_set h]
    obtain ⟨lo, hi⟩ := fz
    rfl
  simp [markStringish, hs, hf]

theorem isU8_u8 {e : TypeId} (h : isU8 P e = true) : P.underlying e = some (.int .u8) := by
  unfold isU8 at h
  split at h
  · assumption
  · cases h

theorem aliveCe_ce {r : Nat} (h : aliveCe st r = true) : ∃ l g al, st.ce r = some (l, g, al) := by
  unfold aliveCe at h
  split at h
  · rename_i p hp; exact ⟨p.1, p.2.1, p.2.2, hp⟩
  · cases h

theorem convSl_spec (h : Rel E w.heap st) {src dst e' e : TypeId} {x v : AV} {u : Value} {st' : St} (hs : P.underlying src = some (.slice e')) (hd : P.underlying dst = some (.slice e)) (hc : convSl P st src dst e x = some (v, st')) (hx : Conc E x u) :
    ∃ E' w' z, (convert src dst u).run P w = .ok z w' ∧ StepW E E' w w' st st' ∧ Conc E' v z := by
  unfold convSl at hc
  split at hc
  · rename_i r o n z c
    obtain ⟨hr, hc⟩ := brec hc
    cases hc
    simp only [Bool.and_eq_true, Nat.beq_eq, Nat.blt_eq] at hr
    obtain ⟨hsd, h8, hcp, hal⟩ := hr
    have he := isU8_u8 h8
    obtain ⟨l, g, al, hce⟩ := aliveCe_ce hal
    obtain ⟨B, cs, t, fz, hB, hH, hfz, hn, hdl, hC⟩ := h.cells hce
    obtain ⟨ha, -, -, -⟩ := St.ce_spec hce
    cases hx with
    | slk _ _ _ _ _ a hle hcase =>
      rcases hcase with rfl | ⟨B', hB', rfl⟩
      · omega
      · rw [hB] at hB'; cases hB'
        refine ⟨E, { w with heap := w.heap.setIfInBounds B.b (.cells cs.toArray t (frostOf cs.toArray.size fz)) }, .slice (some ⟨B.b, o + B.d, none⟩) n c, ?_, ⟨?_, rfl, rfl⟩, .slk _ _ _ _ _ _ hle (.inr ⟨B, hB, rfl⟩)⟩
        · have hm := run_mark (P := P) (w := w) (o := o + B.d) hH
          simp [convert, run_under hs, run_under hd, run_under he, hsd, hm]
        · exact Step.frost h hH ⟨r, _, B, ha, hB, rfl⟩ (h.own r _ B ha hB) (fun hz => frostOf_ok hz)
  · cases hc

theorem conv_spec (h : Rel E w.heap st) {src dst : TypeId} {x v : AV} {u : Value} {st' : St} (hc : conv P st src dst x = some (v, st')) (hx : Conc E x u) (hn : st'.next ≤ E.top) :
    ∃ E' w' z, (convert src dst u).run P w = .ok z w' ∧ StepW E E' w w' st st' ∧ Conc E' v z := by
  unfold conv at hc
  split at hc
  · rename_i d k k' n hs hd
    cases hc
    cases hx
    refine ⟨E, w, .int k (k.wrap n), ?_, .refl h, ?_⟩
    · simp [convert, run_under hs, run_under hd, Conv.intToInt]
    · rw [wr_eq]; exact .i k _
  · rename_i d l hs hd
    cases hc
    cases hx
    rename_i bs
    exact ⟨E, w, .string bs, by simp [convert, run_under hs, run_under hd], .refl h, .s bs⟩
  · rename_i d k n hs hd
    obtain ⟨hr, hc⟩ := brec hc
    cases hc
    cases hx
    simp only [Bool.and_eq_true, ilt_eq, Bool.not_eq_true', decide_eq_true_eq, decide_eq_false_iff_not] at hr
    refine ⟨E, w, .string (Utf8.encode n), by simp [convert, run_under hs, run_under hd, Conv.intToString], .refl h, ?_⟩
    have hv : Utf8.valid n = true := by
      unfold Utf8.valid
      simp only [Bool.or_eq_true, Bool.and_eq_true, decide_eq_true_eq]
      left; omega
    have he : Utf8.encode n = textOf [n.toNat] := by
      unfold Utf8.encode
      simp only [hv, if_true]
      rw [if_pos (by omega)]
      rfl
    rw [he]
    exact textOf_conc (by simp; omega)
  · rename_i e hs hd hns hni
    split at hc
    · rename_i he
      obtain ⟨rfl, ⟨a, l, c, rfl⟩, z, h1, h2⟩ := bytesStr_spec (P := P) h hc hx (fun l e => hns l e)
      exact ⟨E, w, z, by rw [run_convert_bytes_string w src dst e a l c hs he hd]; exact h1, .refl h, h2⟩
    · cases hc
  · rename_i e l hs hd
    split at hc
    · rename_i he
      cases hc
      cases hx
      rename_i bs
      have hr := Lib.run_convert_string_bytes (P := P) w src dst e bs hs hd he
      have hcap : bs.size ≤ grownCap w bs.size 0 e := by unfold grownCap Question.cut; simp only; omega
      have hsz : (Lib.bytesCells w e bs).size = grownCap w bs.size 0 e := by
        have : bs.data.size = bs.size := rfl
        simp [Lib.bytesCells]; omega
      have hs := Step.newCe h (show st.next < E.top from hn) ((bs.data.toList.map UInt8.toNat).map fun b => AV.i .u8 (Int.ofNat b)) (Lib.bytesCells w e bs).toList e ((Lib.bytesCells w e bs).size, (Lib.bytesCells w e bs).size + 1)
        (.inr (by simp)) (by have : bs.data.size = bs.size := rfl; simp; omega) (by
          have : (Lib.bytesCells w e bs).toList.take (((bs.data.toList.map UInt8.toNat).map fun b => AV.i .u8 (Int.ofNat b)).length) = bs.data.toList.map fun b => Value.int .u8 b.toNat := by
            simp [Lib.bytesCells]
          rw [this]
          generalize bs.data.toList = l
          induction l with
          | nil => exact .nil
          | cons b l ih => exact .cons _ _ _ _ (.i _ _) ih)
      have hphi : (E.bind st.next ⟨w.heap.size, 0, (Lib.bytesCells w e bs).toList.length⟩).phi st.next = some ⟨w.heap.size, 0, (Lib.bytesCells w e bs).toList.length⟩ := Env.bind_self
      have hsl : Conc (E.bind st.next ⟨w.heap.size, 0, (Lib.bytesCells w e bs).toList.length⟩) (.sl st.next 0 bs.size 1 none) (.slice (some ⟨w.heap.size, 0, none⟩) bs.size (grownCap w bs.size 0 e)) :=
        .slu st.next 0 _ 1 (grownCap w bs.size 0 e) _ hcap (.inr ⟨_, hphi, by simp, by simp; omega⟩)
      refine ⟨E.bind st.next ⟨w.heap.size, 0, (Lib.bytesCells w e bs).toList.length⟩, _, _, hr, ?_, ?_⟩
      · exact ⟨by rw [bytesHeap]; simpa using hs, rfl, rfl⟩
      · have : (bs.data.toList.map UInt8.toNat).length = bs.size := by simp
        rw [this]; simpa using hsl
    · cases hc
  · rename_i hs hd
    exact convSl_spec h hs hd hc hx
  · cases hc

end

end

end Go.Ev
