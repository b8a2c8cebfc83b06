/-
  The abstract machine, part Z: without fuel. No statement of the seat stands here.
-/
import Derived.Test.YtdpdlobaabcjjaaAmY
namespace Go.Am
open Go

section
variable {P : Program} {Pr : Prims}

/-! More of what is called gives more. -/
def CallT.Le (c c' : CallT) : Prop := ∀ k a H r, c k a H = some r → c' k a H = some r
def CodeT.Le (c c' : CodeT) : Prop := ∀ x s r, c x s = some r → c' x s = some r

theorem stepV_mono {cl cl' : CallT} (h : cl.Le cl') {o : Oper} {s : St} {r : V × St} (hr : stepV P cl o s = some r) : stepV P cl' o s = some r := by
  obtain ⟨dst, op, type, pos, after, guard⟩ := o
  cases op <;> simp only [stepV] at hr ⊢ <;> try exact hr
  case call c =>
    cases hc : c.callee with
    | value f =>
      rw [hc] at hr
      simp only at hr ⊢
      cases hv : calleeV s.T c with
      | none => rw [hv] at hr; cases hr
      | some q =>
        rw [hv] at hr
        simp only [Option.bind_some] at hr ⊢
        obtain ⟨p, hp, e⟩ := Option.map_eq_some_iff.1 hr
        rw [h _ _ _ _ hp, ← e]
        rfl
    | _ => rw [hc] at hr; exact hr
theorem opsV_mono {cl cl' : CallT} (h : cl.Le cl') {N : Nat} {all : List Oper} : ∀ {rest : List Oper} {s s' : St}, opsV P cl N all rest s = some s' → opsV P cl' N all rest s = some s'
  | [], s, s', hr => hr
  | o :: rest, s, s', hr => by
    simp only [opsV] at hr ⊢
    cases hw : wantedV all o s.T with
    | none => rw [hw] at hr; cases hr
    | some w =>
      rw [hw] at hr
      simp only [Option.bind_some] at hr ⊢
      cases w with
      | true =>
        simp only [if_true] at hr ⊢
        cases hst : stepV P cl o s with
        | none => rw [hst] at hr; cases hr
        | some q =>
          rw [hst] at hr
          rw [stepV_mono h hst]
          simp only [Option.bind_some] at hr ⊢
          cases hset : setO N q.2 o.dst q.1 with
          | none => rw [hset] at hr; cases hr
          | some s2 => rw [hset] at hr; exact opsV_mono h hr
      | false =>
        simp only [Bool.false_eq_true, if_false] at hr ⊢
        cases hset : setO N s o.dst (.tup []) with
        | none => rw [hset] at hr; cases hr
        | some s2 => rw [hset] at hr; exact opsV_mono h hr
theorem traceV_mono {cl cl' : CallT} (h : cl.Le cl') {N : Nat} {all : List Oper} : ∀ {rest : List Oper} {s : St} {r : List St × St}, traceV P cl N all rest s = some r → traceV P cl' N all rest s = some r
  | [], s, r, hr => hr
  | o :: rest, s, r, hr => by
    simp only [traceV] at hr ⊢
    cases hw : wantedV all o s.T with
    | none => rw [hw] at hr; cases hr
    | some w =>
      rw [hw] at hr
      simp only [Option.bind_some] at hr ⊢
      have key : ∀ s2, (if w = true then (stepV P cl o s).bind fun q => setO N q.2 o.dst q.1 else setO N s o.dst (.tup [])) = some s2 → (if w = true then (stepV P cl' o s).bind fun q => setO N q.2 o.dst q.1 else setO N s o.dst (.tup [])) = some s2 := by
        intro s2 h2
        split at h2
        · cases hst : stepV P cl o s with
          | none => rw [hst] at h2; cases h2
          | some q => rw [if_pos (by assumption), stepV_mono h hst]; rw [hst] at h2; exact h2
        · rw [if_neg (by assumption)]; exact h2
      generalize hq : (if w = true then (stepV P cl o s).bind fun q => setO N q.2 o.dst q.1 else setO N s o.dst (.tup [])) = q at hr
      cases q with
      | none => cases hr
      | some s2 =>
        rw [key s2 hq]
        simp only [Option.bind_some] at hr ⊢
        obtain ⟨p, hp, e⟩ := Option.map_eq_some_iff.1 hr
        rw [traceV_mono h hp, ← e]
        rfl
theorem codeF_mono {cl cl' : CallT} (h : cl.Le cl') {rec rec' : CodeT} (hc : rec.Le rec') {N : Nat} {c : Code} {s : St} {r : Ex × St} (hr : codeF P cl N rec c s = some r) : codeF P cl' N rec' c s = some r := by
  unfold codeF at hr ⊢
  split at hr
  · exact hr
  · rename_i id ops draw
    split at hr
    · rename_i hd
      rw [if_pos hd]
      split at hr
      · rename_i hok
        rw [if_pos hok]
        cases ht : traceV P cl N ops.toList ops.toList s with
        | none => rw [ht] at hr; cases hr
        | some q => rw [ht] at hr; rw [traceV_mono h ht]; exact hr
      · cases hr
    · rename_i hd
      rw [if_neg hd]
      obtain ⟨q, hq, e⟩ := Option.map_eq_some_iff.1 hr
      rw [opsV_mono h hq, ← e]
      rfl
  · rename_i a b
    cases h1 : rec a s with
    | none => rw [h1] at hr; cases hr
    | some q =>
      rw [h1] at hr
      rw [hc _ _ _ h1]
      simp only [Option.bind_some] at hr ⊢
      split at hr
      · exact hc _ _ _ hr
      · exact hr
  · split at hr
    · exact hc _ _ _ hr
    · exact hc _ _ _ hr
    · cases hr
  · obtain ⟨q, hq, e⟩ := Option.map_eq_some_iff.1 hr
    rw [hc _ _ _ hq, ← e]
    rfl
  · rename_i b
    cases h1 : rec b s with
    | none => rw [h1] at hr; cases hr
    | some q =>
      rw [h1] at hr
      rw [hc _ _ _ h1]
      simp only [Option.bind_some] at hr ⊢
      split at hr
      · exact hc _ _ _ hr
      · exact hr
  · exact hr
  · exact hr
  · cases hr
theorem callD_mono {code code' : Nat → CodeT} (hc : ∀ N, (code N).Le (code' N)) {k : Nat} {a : List V} {H H' : Hp} (hr : callD P Pr code k a H = some H') : callD P Pr code' k a H = some H' := by
  unfold callD at hr ⊢
  split at hr
  · exact hr
  · cases hf : P.funcs[k]? with
    | none => rw [hf] at hr; cases hr
    | some fn =>
      rw [hf] at hr
      simp only [Option.bind_some] at hr ⊢
      cases hb : fn.body with
      | none => rw [hb] at hr; cases hr
      | some c =>
        rw [hb] at hr
        simp only [Option.bind_some] at hr ⊢
        cases h1 : code (max a.length fn.ntmps) c ⟨a, [], H⟩ with
        | none => rw [h1] at hr; cases hr
        | some q => rw [h1] at hr; rw [hc _ _ _ _ h1]; exact hr
theorem defersV_mono {code code' : Nat → CodeT} (hc : ∀ N, (code N).Le (code' N)) : ∀ {D : List (Nat × List V)} {H H' : Hp}, defersV P Pr code D H = some H' → defersV P Pr code' D H = some H'
  | [], H, H', hr => hr
  | d :: D, H, H', hr => by
    simp only [defersV] at hr ⊢
    cases h1 : callD P Pr code d.1 d.2 H with
    | none => rw [h1] at hr; cases hr
    | some q => rw [h1] at hr; rw [callD_mono hc h1]; exact defersV_mono hc hr
theorem callF_mono {code code' : Nat → CodeT} (hc : ∀ N, (code N).Le (code' N)) : CallT.Le (callF P Pr code) (callF P Pr code') := by
  intro k a H r hr
  unfold callF at hr ⊢
  split at hr
  · exact hr
  · cases hf : P.funcs[k]? with
    | none => rw [hf] at hr; cases hr
    | some fn =>
      rw [hf] at hr
      simp only [Option.bind_some] at hr ⊢
      cases hb : fn.body with
      | none => rw [hb] at hr; cases hr
      | some c =>
        rw [hb] at hr
        simp only [Option.bind_some] at hr ⊢
        cases h1 : code (max a.length fn.ntmps) c ⟨a, [], H⟩ with
        | none => rw [h1] at hr; cases hr
        | some q =>
          obtain ⟨e, s⟩ := q
          rw [h1] at hr
          rw [hc _ _ _ _ h1]
          simp only [Option.bind_some] at hr ⊢
          cases e with
          | exit id => cases hr
          | nor =>
            simp only at hr ⊢
            cases h2 : defersV P Pr code s.D s.H with
            | none => rw [h2] at hr; cases hr
            | some q => rw [h2] at hr; rw [defersV_mono hc h2]; exact hr
          | ret =>
            simp only at hr ⊢
            cases h2 : defersV P Pr code s.D s.H with
            | none => rw [h2] at hr; cases hr
            | some q => rw [h2] at hr; rw [defersV_mono hc h2]; exact hr

theorem both_mono1 : ∀ n, (∀ N, ((both P Pr n).1 N).Le ((both P Pr (n + 1)).1 N)) ∧ (both P Pr n).2.Le (both P Pr (n + 1)).2
  | 0 => ⟨fun _ _ _ _ h => (by cases h), fun _ _ _ _ h => (by cases h)⟩
  | n + 1 => ⟨fun N x s r h => codeF_mono (both_mono1 n).2 ((both_mono1 n).1 N) h, fun k a H r h => callF_mono (both_mono1 n).1 k a H r h⟩
theorem both_mono (n : Nat) : ∀ d, (∀ N, ((both P Pr n).1 N).Le ((both P Pr (n + d)).1 N)) ∧ (both P Pr n).2.Le (both P Pr (n + d)).2
  | 0 => ⟨fun _ _ _ _ h => h, fun _ _ _ _ h => h⟩
  | d + 1 => ⟨fun N x s r h => (both_mono1 (n + d)).1 N x s r ((both_mono n d).1 N x s r h), fun k a H r h => (both_mono1 (n + d)).2 k a H r ((both_mono n d).2 k a H r h)⟩

theorem exec_up {n m N : Nat} (h : n ≤ m) : (exec P Pr n N).Le (exec P Pr m N) := by
  obtain ⟨d, rfl⟩ : ∃ d, m = n + d := ⟨m - n, by omega⟩
  exact (both_mono n d).1 N
theorem callN_up {n m : Nat} (h : n ≤ m) : (callN P Pr n).Le (callN P Pr m) := by
  obtain ⟨d, rfl⟩ : ∃ d, m = n + d := ⟨m - n, by omega⟩
  exact (both_mono n d).2

/-! The machine without fuel. -/
open Classical in
noncomputable def codeL (P : Program) (Pr : Prims) (N : Nat) : CodeT := fun c s => if h : ∃ r n, exec P Pr n N c s = some r then some h.choose else none
open Classical in
noncomputable def callL (P : Program) (Pr : Prims) : CallT := fun k a H => if h : ∃ r n, callN P Pr n k a H = some r then some h.choose else none
theorem codeL_iff {N : Nat} {c : Code} {s : St} {r : Ex × St} : codeL P Pr N c s = some r ↔ ∃ n, exec P Pr n N c s = some r := by
  have uniq : ∀ {r r' : Ex × St} {n m : Nat}, exec P Pr n N c s = some r → exec P Pr m N c s = some r' → r = r' := by
    intro r r' n m h1 h2
    have e1 := exec_up (Nat.le_max_left n m) _ _ _ h1
    have e2 := exec_up (Nat.le_max_right n m) _ _ _ h2
    rw [e1] at e2
    exact Option.some.inj e2
  unfold codeL
  constructor
  · intro h
    split at h
    · rename_i hx
      injection h with h
      obtain ⟨n, hn⟩ := hx.choose_spec
      exact ⟨n, h ▸ hn⟩
    · cases h
  · rintro ⟨n, hn⟩
    have hx : ∃ r n, exec P Pr n N c s = some r := ⟨r, n, hn⟩
    rw [dif_pos hx]
    obtain ⟨m, hm⟩ := hx.choose_spec
    exact congrArg some (uniq hm hn)
theorem callL_iff {k : Nat} {a : List V} {H : Hp} {r : V × Hp} : callL P Pr k a H = some r ↔ ∃ n, callN P Pr n k a H = some r := by
  have uniq : ∀ {r r' : V × Hp} {n m : Nat}, callN P Pr n k a H = some r → callN P Pr m k a H = some r' → r = r' := by
    intro r r' n m h1 h2
    have e1 := callN_up (Nat.le_max_left n m) _ _ _ _ h1
    have e2 := callN_up (Nat.le_max_right n m) _ _ _ _ h2
    rw [e1] at e2
    exact Option.some.inj e2
  unfold callL
  constructor
  · intro h
    split at h
    · rename_i hx
      injection h with h
      obtain ⟨n, hn⟩ := hx.choose_spec
      exact ⟨n, h ▸ hn⟩
    · cases h
  · rintro ⟨n, hn⟩
    have hx : ∃ r n, callN P Pr n k a H = some r := ⟨r, n, hn⟩
    rw [dif_pos hx]
    obtain ⟨m, hm⟩ := hx.choose_spec
    exact congrArg some (uniq hm hn)
theorem callN_le (n : Nat) : (callN P Pr n).Le (callL P Pr) := fun _ _ _ _ h => callL_iff.2 ⟨n, h⟩
theorem exec_le (n N : Nat) : (exec P Pr n N).Le (codeL P Pr N) := fun _ _ _ h => codeL_iff.2 ⟨n, h⟩

/-! What is told without fuel is told with some. -/
theorem stepV_some {o : Oper} {s : St} {r : V × St} (h : stepV P (callL P Pr) o s = some r) : ∃ n, stepV P (callN P Pr n) o s = some r := by
  obtain ⟨dst, op, type, pos, after, guard⟩ := o
  cases op <;> simp only [stepV] at h ⊢ <;> try exact ⟨0, h⟩
  case call c =>
    cases hc : c.callee with
    | value f =>
      rw [hc] at h
      simp only at h ⊢
      cases hv : calleeV s.T c with
      | none => rw [hv] at h; cases h
      | some q =>
        rw [hv] at h
        simp only [Option.bind_some] at h ⊢
        obtain ⟨p, hp, e⟩ := Option.map_eq_some_iff.1 h
        obtain ⟨n, hn⟩ := callL_iff.1 hp
        exact ⟨n, by rw [hn, ← e]; rfl⟩
    | _ => rw [hc] at h; exact ⟨0, h⟩
theorem opsV_some {N : Nat} {all : List Oper} : ∀ {rest : List Oper} {s s' : St}, opsV P (callL P Pr) N all rest s = some s' → ∃ n, opsV P (callN P Pr n) N all rest s = some s'
  | [], s, s', h => ⟨0, h⟩
  | o :: rest, s, s', h => by
    simp only [opsV] at h ⊢
    cases hw : wantedV all o s.T with
    | none => rw [hw] at h; cases h
    | some w =>
      rw [hw] at h
      simp only [Option.bind_some] at h ⊢
      cases w with
      | true =>
        simp only [if_true] at h ⊢
        cases hst : stepV P (callL P Pr) o s with
        | none => rw [hst] at h; cases h
        | some q =>
          obtain ⟨n, hn⟩ := stepV_some hst
          rw [hst] at h
          simp only [Option.bind_some] at h
          cases hset : setO N q.2 o.dst q.1 with
          | none => rw [hset] at h; cases h
          | some s2 =>
            rw [hset] at h
            obtain ⟨m, hm⟩ := opsV_some h
            refine ⟨max n m, ?_⟩
            rw [stepV_mono (callN_up (Nat.le_max_left n m)) hn]
            simp only [Option.bind_some]
            rw [hset]
            exact opsV_mono (callN_up (Nat.le_max_right n m)) hm
      | false =>
        simp only [Bool.false_eq_true, if_false] at h ⊢
        cases hset : setO N s o.dst (.tup []) with
        | none => rw [hset] at h; cases h
        | some s2 =>
          rw [hset] at h
          obtain ⟨m, hm⟩ := opsV_some h
          exact ⟨m, hm⟩
theorem traceV_some {N : Nat} {all : List Oper} : ∀ {rest : List Oper} {s : St} {r : List St × St}, traceV P (callL P Pr) N all rest s = some r → ∃ n, traceV P (callN P Pr n) N all rest s = some r
  | [], s, r, h => ⟨0, h⟩
  | o :: rest, s, r, h => by
    simp only [traceV] at h ⊢
    cases hw : wantedV all o s.T with
    | none => rw [hw] at h; cases h
    | some w =>
      rw [hw] at h
      simp only [Option.bind_some] at h ⊢
      generalize hq : (if w = true then (stepV P (callL P Pr) o s).bind fun q => setO N q.2 o.dst q.1 else setO N s o.dst (.tup [])) = q at h
      cases q with
      | none => cases h
      | some s2 =>
        simp only [Option.bind_some] at h
        obtain ⟨p, hp, e⟩ := Option.map_eq_some_iff.1 h
        obtain ⟨m, hm⟩ := traceV_some hp
        cases w with
        | true =>
          simp only [if_true] at hq ⊢
          cases hst : stepV P (callL P Pr) o s with
          | none => rw [hst] at hq; cases hq
          | some q =>
            obtain ⟨n, hn⟩ := stepV_some hst
            rw [hst] at hq
            simp only [Option.bind_some] at hq
            refine ⟨max n m, ?_⟩
            rw [stepV_mono (callN_up (Nat.le_max_left n m)) hn]
            simp only [Option.bind_some]
            rw [hq]
            simp only [Option.bind_some]
            rw [traceV_mono (callN_up (Nat.le_max_right n m)) hm, ← e]
            rfl
        | false =>
          simp only [Bool.false_eq_true, if_false] at hq ⊢
          refine ⟨m, ?_⟩
          rw [hq]
          simp only [Option.bind_some]
          rw [hm, ← e]
          rfl
theorem codeF_some {N : Nat} {c : Code} {s : St} {r : Ex × St} (h : codeF P (callL P Pr) N (codeL P Pr N) c s = some r) : ∃ n, codeF P (callN P Pr n) N (exec P Pr n N) c s = some r := by
  unfold codeF at h ⊢
  split at h
  · exact ⟨0, h⟩
  · rename_i id ops draw
    split at h
    · rename_i hd
      split at h
      · rename_i hok
        cases ht : traceV P (callL P Pr) N ops.toList ops.toList s with
        | none => rw [ht] at h; cases h
        | some q =>
          obtain ⟨n, hn⟩ := traceV_some ht
          rw [ht] at h
          refine ⟨n, ?_⟩
          rw [if_pos hd, if_pos hok, hn]
          exact h
      · cases h
    · rename_i hd
      obtain ⟨q, hq, e⟩ := Option.map_eq_some_iff.1 h
      obtain ⟨n, hn⟩ := opsV_some hq
      refine ⟨n, ?_⟩
      rw [if_neg hd, hn, ← e]
      rfl
  · rename_i a b
    cases h1 : codeL P Pr N a s with
    | none => rw [h1] at h; cases h
    | some q =>
      obtain ⟨n, hn⟩ := codeL_iff.1 h1
      rw [h1] at h
      simp only [Option.bind_some] at h
      obtain ⟨e, s1⟩ := q
      cases e with
      | nor =>
        obtain ⟨m, hm⟩ := codeL_iff.1 h
        refine ⟨max n m, ?_⟩
        rw [exec_up (Nat.le_max_left n m) _ _ _ hn]
        exact exec_up (Nat.le_max_right n m) _ _ _ hm
      | exit id => exact ⟨n, by rw [hn]; exact h⟩
      | ret => exact ⟨n, by rw [hn]; exact h⟩
  · split at h
    · obtain ⟨n, hn⟩ := codeL_iff.1 h; exact ⟨n, hn⟩
    · obtain ⟨n, hn⟩ := codeL_iff.1 h; exact ⟨n, hn⟩
    · cases h
  · obtain ⟨q, hq, e⟩ := Option.map_eq_some_iff.1 h
    obtain ⟨n, hn⟩ := codeL_iff.1 hq
    exact ⟨n, by rw [hn, ← e]; rfl⟩
  · rename_i b
    cases h1 : codeL P Pr N b s with
    | none => rw [h1] at h; cases h
    | some q =>
      obtain ⟨n, hn⟩ := codeL_iff.1 h1
      rw [h1] at h
      simp only [Option.bind_some] at h
      obtain ⟨e, s1⟩ := q
      cases e with
      | nor =>
        obtain ⟨m, hm⟩ := codeL_iff.1 h
        refine ⟨max n m, ?_⟩
        rw [exec_up (Nat.le_max_left n m) _ _ _ hn]
        exact exec_up (Nat.le_max_right n m) _ _ _ hm
      | exit id => exact ⟨n, by rw [hn]; exact h⟩
      | ret => exact ⟨n, by rw [hn]; exact h⟩
  · exact ⟨0, h⟩
  · exact ⟨0, h⟩
  · cases h
/-- Code, step by step. -/
theorem codeL_eq (N : Nat) (c : Code) (s : St) : codeL P Pr N c s = codeF P (callL P Pr) N (codeL P Pr N) c s := by
  cases h : codeF P (callL P Pr) N (codeL P Pr N) c s with
  | some r =>
    obtain ⟨n, hn⟩ := codeF_some h
    exact codeL_iff.2 ⟨n + 1, hn⟩
  | none =>
    cases h2 : codeL P Pr N c s with
    | none => rfl
    | some r =>
      obtain ⟨n, hn⟩ := codeL_iff.1 h2
      cases n with
      | zero => cases hn
      | succ n =>
        have := codeF_mono (callN_le n) (exec_le n N) (hn : codeF P (callN P Pr n) N (exec P Pr n N) c s = some r)
        rw [h] at this
        cases this

theorem callD_some {k : Nat} {a : List V} {H H' : Hp} (h : callD P Pr (codeL P Pr) k a H = some H') : ∃ n, callD P Pr (exec P Pr n) k a H = some H' := by
  unfold callD at h ⊢
  split at h
  · exact ⟨0, h⟩
  · cases hf : P.funcs[k]? with
    | none => rw [hf] at h; cases h
    | some fn =>
      rw [hf] at h
      simp only [Option.bind_some] at h ⊢
      cases hb : fn.body with
      | none => rw [hb] at h; cases h
      | some c =>
        rw [hb] at h
        simp only [Option.bind_some] at h ⊢
        cases h1 : codeL P Pr (max a.length fn.ntmps) c ⟨a, [], H⟩ with
        | none => rw [h1] at h; cases h
        | some q =>
          obtain ⟨n, hn⟩ := codeL_iff.1 h1
          rw [h1] at h
          exact ⟨n, by rw [hn]; exact h⟩
theorem defersV_some : ∀ {D : List (Nat × List V)} {H H' : Hp}, defersV P Pr (codeL P Pr) D H = some H' → ∃ n, defersV P Pr (exec P Pr n) D H = some H'
  | [], H, H', h => ⟨0, h⟩
  | d :: D, H, H', h => by
    simp only [defersV] at h ⊢
    cases h1 : callD P Pr (codeL P Pr) d.1 d.2 H with
    | none => rw [h1] at h; cases h
    | some q =>
      obtain ⟨n, hn⟩ := callD_some h1
      rw [h1] at h
      obtain ⟨m, hm⟩ := defersV_some h
      refine ⟨max n m, ?_⟩
      rw [callD_mono (fun N => exec_up (Nat.le_max_left n m)) hn]
      exact defersV_mono (fun N => exec_up (Nat.le_max_right n m)) hm
theorem callF_some {k : Nat} {a : List V} {H : Hp} {r : V × Hp} (h : callF P Pr (codeL P Pr) k a H = some r) : ∃ n, callF P Pr (exec P Pr n) k a H = some r := by
  unfold callF at h ⊢
  split at h
  · exact ⟨0, h⟩
  · cases hf : P.funcs[k]? with
    | none => rw [hf] at h; cases h
    | some fn =>
      rw [hf] at h
      simp only [Option.bind_some] at h ⊢
      cases hb : fn.body with
      | none => rw [hb] at h; cases h
      | some c =>
        rw [hb] at h
        simp only [Option.bind_some] at h ⊢
        cases h1 : codeL P Pr (max a.length fn.ntmps) c ⟨a, [], H⟩ with
        | none => rw [h1] at h; cases h
        | some q =>
          obtain ⟨n, hn⟩ := codeL_iff.1 h1
          obtain ⟨e, s⟩ := q
          rw [h1] at h
          simp only [Option.bind_some] at h
          have key : ((defersV P Pr (codeL P Pr) s.D s.H).bind fun H' => (resultsV P fn H' s.T).map fun v => Pr.gc H (v, H')) = some r → ∃ m, n ≤ m ∧ ((defersV P Pr (exec P Pr m) s.D s.H).bind fun H' => (resultsV P fn H' s.T).map fun v => Pr.gc H (v, H')) = some r := by
            intro h
            cases h2 : defersV P Pr (codeL P Pr) s.D s.H with
            | none => rw [h2] at h; cases h
            | some q =>
              obtain ⟨m, hm⟩ := defersV_some h2
              rw [h2] at h
              exact ⟨max n m, Nat.le_max_left _ _, by rw [defersV_mono (fun N => exec_up (Nat.le_max_right n m)) hm]; exact h⟩
          cases e with
          | exit id => cases h
          | nor =>
            obtain ⟨m, h3, h4⟩ := key h
            exact ⟨m, by rw [exec_up h3 _ _ _ hn]; exact h4⟩
          | ret =>
            obtain ⟨m, h3, h4⟩ := key h
            exact ⟨m, by rw [exec_up h3 _ _ _ hn]; exact h4⟩
/-- A call, entered. -/
theorem callL_eq (k : Nat) (a : List V) (H : Hp) : callL P Pr k a H = callF P Pr (codeL P Pr) k a H := by
  cases h : callF P Pr (codeL P Pr) k a H with
  | some r =>
    obtain ⟨n, hn⟩ := callF_some h
    exact callL_iff.2 ⟨n + 1, hn⟩
  | none =>
    cases h2 : callL P Pr k a H with
    | none => rfl
    | some r =>
      obtain ⟨n, hn⟩ := callL_iff.1 h2
      cases n with
      | zero => cases hn
      | succ n =>
        have := callF_mono (fun N => exec_le n N) _ _ _ _ (hn : callF P Pr (exec P Pr n) k a H = some r)
        rw [h] at this
        cases this
end
end Go.Am
