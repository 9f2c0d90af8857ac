/- Any operation: what it gives; the machine's steps over it. -/
import Derived.Test.YtgjbgebejiapmaaGreatDoorEvCall
namespace Go.Ev

noncomputable section

section
variable {P : Program} {S : Self} {w : World} {E : Env} {st : St}

theorem run_callMethod {t : TypeId} {name : String} {u : Value} {f : FuncId} {args : Array Value} (hm : methodOf P t name = some f) :
    (callMethod (.iface t u) name args).run P w = (callFunc f (#[u] ++ args)).run P w := by
  unfold methodOf at hm
  split at hm
  case h_2 => cases hm
  rename_i i hi
  split at hm
  case h_2 => cases hm
  rename_i m hfind
  have hfind' : i.methods.find? (fun x => x.name == name) = some m := by rw [← Array.find?_toList]; exact hfind
  split at hm
  case h_2 => cases hm
  rename_i f' ptr hpath hfunc
  have hd : P.types.size + Made.depth = (P.types.size + (Made.depth - 1)) + 1 := by
    have : 0 < Made.depth := by decide
    omega
  have hinfo : (typeInfo t).run P w = .ok i w := by simp [typeInfo, Sem.run_bind, hi]
  have key : (method (P.types.size + Made.depth) t u name).run P w = .ok (f, u) w := by
    rw [hd]
    split at hm
    · rename_i e hu
      cases hm
      simp [method, Sem.run_bind, hinfo, hfind', hpath, follow, hfunc, receiverAt, underlying, hu, Place.get]
    · cases hm
    · rename_i d hne hu
      cases hm
      have : (underlying t).run P w = .ok d w := by simp [underlying, Sem.run_bind, hu]
      simp only [method, Sem.run_bind, hinfo, Result.andThen_ok, hfind', hpath, follow, Sem.run_pure, hfunc, receiverAt, this]
      cases d <;> first | exact absurd hu (hne _) | simp [Place.get] | skip
    · cases hm
  simp [callMethod, Sem.run_bind, key]

theorem callI_spec (hS : SelfOK P S) (hr : Rel E w.heap st) {x : AV} {u : Value} {name : String} {as : List AV} {us : List Value} (hx : Conc E x u) (hc : ConcL E as us) {v : AV} {st' : St} (h : callI P S st name as x = some (v, st')) (hn : st'.next ≤ E.top) :
    GivesC P E w st st' v ((callMethod u name us.toArray).run P w) := by
  unfold callI at h
  split at h
  case h_2 => cases h
  rename_i ty y
  cases hx with
  | ifc _ _ z hz =>
    split at h
    case h_2 => cases h
    rename_i f hm
    rw [run_callMethod hm]
    have := callF_spec hS hr (.cons _ _ _ _ hz hc) h hn
    simpa using this

theorem callV_spec (hS : SelfOK P S) (hr : Rel E w.heap st) {x : AV} {u : Value} {as : List AV} {us : List Value} (hx : Conc E x u) (hc : ConcL E as us) {v : AV} {st' : St} (h : callV P S st as x = some (v, st')) (hn : st'.next ≤ E.top) :
    GivesC P E w st st' v ((do let d ← Deferred.ofValue u us.toArray; invoke d.target d.args : Sem Next).run P w) := by
  unfold callV at h
  split at h
  · rename_i f first captured
    cases hx with
    | f _ _ _ vx vy _ hvx hvy =>
      have := callF_spec hS hr (hvx.append (hc.append hvy)) h hn
      simpa [Deferred.ofValue, invoke, Sem.run_bind, Array.append_assoc] using this
  · rename_i l
    cases hx with
    | f _ _ _ _ _ hy _ _ => cases hy
    | yi _ B hB =>
      have := round_spec hS hr hB hc h hn
      simpa [Deferred.ofValue, invoke, Sem.run_bind] using this
  · cases h

theorem invoke_method (name : String) (u : Value) (A : Array Value) : invoke (.fn (.method name) #[]) (#[u] ++ A) = callMethod u name A := by
  have h0 : (#[u] ++ A)[0]? = some u := by
    rw [Array.getElem?_append_left (by simp)]; rfl
  have h1 : (#[u] ++ A).extract 1 (#[u] ++ A).size = A := by simp
  simp only [invoke, h0, h1]

theorem send_spec (h : Rel E w.heap st) {x c v : AV} {ux uc : Value} {st' : St} (hs : sendOf st x c = some (v, st')) (hx : Conc E x ux) (hc : Conc E c uc) :
    GivesC P E w st st' v ((pure (.comm #[{ chan := uc, send := some ux, zero := .tuple #[] }] true .send) : Sem Next).run P w) := by
  unfold sendOf at hs
  split at hs
  case h_2 => cases hs
  rename_i r
  cases hc with
  | c _ B hB =>
    split at hs
    case h_2 => cases hs
    rename_i cap buf hg
    obtain ⟨hlt, hs⟩ := brec hs
    cases hs
    obtain ⟨ha, B', s, q, us, hB', hH, hb⟩ := h.ch hg
    rw [hB] at hB'; cases hB'
    have hlt' : us.length < cap := by rw [← hb.length]; simpa [Nat.blt_eq] using hlt
    have hst := Step.putRow h ha hB (row' := .ch cap (buf ++ [x])) (by intros; exact Row.noConfusion) (by intros; exact Row.noConfusion) (.chan cap (us.toArray.push ux) false (s + 1) q false)
      (fun H' hH' => ⟨s + 1, q, us ++ [ux], by simpa using hH', hb.append (.cons _ _ _ _ hx .nil)⟩)
    refine ⟨E, _, undef, .of hst, .un, .inr (.inr (.inr ⟨_, _, _, rfl, fun fr cs es he => ?_⟩))⟩
    exact _root_.Go.Conc.step_lone_send_room (v := ux) (z' := .tuple #[]) he hH (by simpa using hlt')

theorem take_spec (h : Rel E w.heap st) {z c v : AV} {uz uc : Value} {st' : St} (hs : takeOf st z c = some (v, st')) (hz : Conc E z uz) (hc : Conc E c uc) :
    GivesC P E w st st' v ((pure (.comm #[{ chan := uc, send := none, zero := uz }] false .select) : Sem Next).run P w) := by
  unfold takeOf at hs
  split at hs
  case h_2 => cases hs
  rename_i r
  cases hc with
  | c _ B hB =>
    split at hs
    · rename_i cap x buf hg
      cases hs
      obtain ⟨ha, B', s, q, us, hB', hH, hb⟩ := h.ch hg
      rw [hB] at hB'; cases hB'
      cases hb with
      | cons _ _ u us hu hus =>
        have hst := Step.putRow h ha hB (row' := .ch cap buf) (by intros; exact Row.noConfusion) (by intros; exact Row.noConfusion) (.chan cap ((u :: us).toArray.extract 1 (u :: us).toArray.size) false s (q + 1) false)
          (fun H' hH' => ⟨s, q + 1, us, by simpa using hH', hus⟩)
        refine ⟨E, _, .tuple #[.int .i64 0, .bool true, u], .of hst, .tu _ [.int .i64 0, .bool true, u] (.cons _ _ _ _ (.i _ _) (.cons _ _ _ _ (.b _) (.cons _ _ _ _ hu .nil))), .inr (.inr (.inr ⟨_, _, _, rfl, fun fr cs es he => ?_⟩))⟩
        exact _root_.Go.Conc.step_lone_select_recv_buf (z := uz) he hH (by simp)
    · rename_i cap hg
      cases hs
      obtain ⟨ha, B', s, q, us, hB', hH, hb⟩ := h.ch hg
      rw [hB] at hB'; cases hB'
      cases hb
      refine ⟨E, w, .tuple #[.int .i64 (-1), .bool false, uz], .refl h, .tu _ [.int .i64 (-1), .bool false, uz] (.cons _ _ _ _ (.i _ _) (.cons _ _ _ _ (.b _) (.cons _ _ _ _ hz .nil))), .inr (.inr (.inr ⟨_, _, _, rfl, fun fr cs es he => ?_⟩))⟩
      exact _root_.Go.Conc.step_lone_select_default (z := uz) he hH
    · cases hs

theorem op_all (hS : SelfOK P S) (h : Rel E w.heap st) {t : Tr AV} {ρ : Operand → Value} (hρ : ∀ x, Conc E (evO t x) (ρ x)) {o : Oper} {v : AV} {st' : St} (ho : evOp P S t st o = some (v, st')) (hn : st'.next ≤ E.top) :
    GivesC P E w st st' v ((execOp ρ o).run P w) := by
  cases hc : goCall o.op with
  | false => exact (op_spec h hρ ho hn hc).c
  | true =>
    unfold goCall at hc
    split at hc
    · rename_i ch x hop
      unfold evOp at ho
      rw [hop] at ho
      have ho : sendOf st (evO t x) (evO t ch) = some (v, st') := ho
      simp only [execOp, hop]
      exact send_spec h ho (hρ x) (hρ ch)
    · rename_i cs bl hop
      unfold evOp at ho
      rw [hop] at ho
      have ho : opSelect cs bl P S t st = some (v, st') := ho
      unfold opSelect at ho
      split at ho
      case h_2 => cases ho
      rename_i s hcs hbl
      split at ho
      case h_2 => cases ho
      rename_i hsn
      unfold takeZ at ho
      split at ho
      case h_2 => cases ho
      rename_i z hz
      obtain ⟨zv, rfl, hzr⟩ := zero_of (P := P) hz
      have hcs' : cs = #[s] := by rw [← Array.toArray_toList (xs := cs), hcs]
      have := take_spec (P := P) h ho (ofVal_conc zv) (hρ s.chan)
      simp only [execOp, hop, hcs', hsn]
      simpa [Sem.run_bind, hzr, Array.mapM_eq_mapM_toList, hsn] using this
    case h_4 => cases hc
    rename_i c hop
    unfold evOp at ho
    rw [hop] at ho
    have ho : opCall c P S t st = some (v, st') := ho
    unfold opCall at ho
    simp only [execOp, hop, resolve]
    have ha : ConcL E (args t c.args.toList) (c.args.toList.map ρ) := args_conc hρ c.args.toList
    cases hcc : c.callee with
    | builtin b => rw [hcc] at hc; cases hc
    | value f =>
      rw [hcc] at ho
      have := callV_spec hS h (hρ f) ha ho hn
      rw [mapArr] at this
      exact this
    | invoke r name =>
      rw [hcc] at ho
      have := callI_spec hS h (hρ r) ha ho hn
      rw [mapArr] at this
      rw [Sem.run_bind, Sem.run_pure, Result.andThen_ok, invoke_method]
      exact this

variable {b : Frame} {a : Act} {k : List Item} {ops : Array Oper} {i : Nat} {rest : List Nat} {o : Oper}

/-- An operation that is wanted: the machine puts what it gives. -/
theorem givesC_steps {v : AV} {st' : St} (ho : ops[i]? = some o) (hw : Region.wanted o (yielded ops a.tmps) = true) (hd : ∀ c, o.op ≠ .defer c) (h : GivesC P E w st st' v ((execOp a.eval o).run P w)) :
    ∃ E' w' cv, StepW E E' w w' st st' ∧ Conc E' v cv ∧ ∀ cs, Steps P (lone (b.atR a (.inRegion ops (i :: rest) :: k)) cs w) (lone (b.atR (a.put o.dst cv) (.inRegion ops rest :: k)) cs w') := by
  obtain ⟨E', w', cv, hs, hc, h⟩ := h
  refine ⟨E', w', cv, hs, hc, fun cs => ?_⟩
  have hf := Frame.finish_atR b a ops i rest k cv
  rw [ho] at hf
  simp only [Option.bind_some] at hf
  rcases h with (h | ⟨h, rfl⟩) | ⟨f, as, h, hcall⟩ | ⟨l, f, tmps, x, y, h, hround⟩ | ⟨cases, bl, sh, h, htell⟩
  · exact Steps.one (step_value ho hw hd h)
  · exact Steps.one (step_skipped ho hw hd h)
  · refine (Steps.one (step_enter ho hw hd h)).trans ?_
    obtain ⟨fr, h1, h2, h3⟩ := hcall (b.atR a (.inRegion ops (i :: rest) :: k) :: cs)
    refine h1.trans ?_
    rw [← hf]
    exact Steps.one (step_leave_returned h3)
  · refine (Steps.one (step_round ho hw hd h)).trans ?_
    rw [← hf]
    exact hround _ cs
  · obtain ⟨es, he⟩ := stepG_comm (b := b) (k := k) (cs := cs) (rest := rest) ho hw hd h
    rw [← hf]
    exact Steps.one (htell _ cs es he)

theorem notDefer {t : Tr AV} {v : AV} {st' : St} (ho : evOp P S t st o = some (v, st')) : ∀ c, o.op ≠ .defer c := by
  intro c hop
  unfold evOp at ho
  rw [hop] at ho
  cases ho

end

end

end Go.Ev
