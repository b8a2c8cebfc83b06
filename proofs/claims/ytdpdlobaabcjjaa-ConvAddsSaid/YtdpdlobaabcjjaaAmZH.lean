/-
  The abstract machine, part ZH: maps, read and written as lists of pairs. No statement of the seat stands here.
-/
import Derived.Test.YtdpdlobaabcjjaaAmZG
namespace Go.Am
open Go
set_option linter.unusedSectionVars false

section
variable {P : Program} {cl : CallT} {T : Fr} {D : Dfr} {H : Hp}
def mapKV (P : Program) (t : TypeId) : Option (TypeId × TypeId) := match P.underlying t with
  | some (.map kt et) => some (kt, et)
  | _ => none
theorem mapKV_eq {t kt et : TypeId} (h : mapKV P t = some (kt, et)) : P.underlying t = some (.map kt et) := by
  unfold mapKV at h
  split at h
  · injection h with h
    injection h with h1 h2
    subst h1 h2
    assumption
  · simp at h
def mkMapW (q : Option (TypeId × TypeId)) (D : Dfr) (H : Hp) : Option (V × Dfr × Hp) := match q with
  | some (kt, _) => some (.map H.length, D, H ++ [.map kt []])
  | none => none
@[go_sem] theorem mkMapW_some (kt et : TypeId) : mkMapW (some (kt, et)) D H = some (.map H.length, D, H ++ [.map kt []]) := rfl
@[go_sem] theorem s_makeMap (t : TypeId) : stepW P cl (.makeMap t none) T D H = mkMapW (mapKV P t) D H := by
  simp only [stepW, opV, mapKV]
  cases P.underlying t with
  | none => rfl
  | some u => cases u <;> rfl
theorem keyOk_agg {kt : TypeId} {ks : List CK} {cs : List V} (h1 : flatT P 8 kt = some ks) (h2 : aggT P kt = some true) (h3 : szOf P kt = some ks.length) (h4 : ckOks ks cs = true) : keyOk P kt (.agg cs) = true := by
  simp [keyOk, h1, h2, h3, V.cells, h4]
theorem keyOk_int {kt : TypeId} {k : IntKind} (h1 : flatT P 8 kt = some [.int k]) (h2 : aggT P kt = some false) (h3 : szOf P kt = some 1) (n : Int) : keyOk P kt (.int k n) = true := by
  simp [keyOk, h1, h2, h3, V.cells, ckOks, ckOk]
theorem keyOk_str {kt : TypeId} (h1 : flatT P 8 kt = some [.str]) (h2 : aggT P kt = some false) (h3 : szOf P kt = some 1) (s : List UInt8) : keyOk P kt (.str s) = true := by
  simp [keyOk, h1, h2, h3, V.cells, ckOks, ckOk]

/-! A map whose keys and values are plain data. -/
variable {α β : Type} [DecidableEq α]
def enP (ek : α → V) (ev : β → V) (p : α × β) : V × V := (ek p.1, ev p.2)
def MapOf (H : Hp) (id : Nat) (kt : TypeId) (ek : α → V) (ev : β → V) (l : List (α × β)) : Prop := H[id]? = some (.map kt (l.map (enP ek ev)))
def lookA : List (α × β) → α → Option β
  | [], _ => none
  | p :: l, k => if p.1 = k then some p.2 else lookA l k
def putA : List (α × β) → α → β → List (α × β)
  | [], k, v => [(k, v)]
  | p :: l, k, v => if p.1 = k then (k, v) :: l else p :: putA l k v
def delA : List (α × β) → α → List (α × β)
  | [], _ => []
  | p :: l, k => if p.1 = k then l else p :: delA l k
abbrev KeyEq (ek : α → V) : Prop := ∀ a b, eqCells (ek a).cells (ek b).cells = decide (a = b)
theorem findM_none {ek : α → V} {ev : β → V} (hk : KeyEq ek) : ∀ (l : List (α × β)) (k : α), lookA l k = none → findM (l.map (enP ek ev)) (ek k) = none ∧ putA l k = fun v => l ++ [(k, v)]
  | [], k, _ => ⟨rfl, rfl⟩
  | p :: l, k, h => by
    unfold lookA at h
    split at h
    · simp at h
    · obtain ⟨h1, h2⟩ := findM_none hk l k h
      rename_i hne
      refine ⟨?_, ?_⟩
      · unfold findM at h1 ⊢
        rw [List.map_cons, List.findIdx?_cons, h1]
        simp [enP, hk, hne]
      · funext v
        simp [putA, hne, h2]
theorem findM_some {ek : α → V} {ev : β → V} (hk : KeyEq ek) : ∀ (l : List (α × β)) (k : α) (v : β), lookA l k = some v → ∃ i, findM (l.map (enP ek ev)) (ek k) = some i ∧ l[i]? = some (k, v) ∧ (∀ v', putA l k v' = l.set i (k, v')) ∧ delA l k = l.eraseIdx i
  | [], k, v, h => by simp [lookA] at h
  | p :: l, k, v, h => by
    unfold lookA at h
    split at h
    · rename_i he
      injection h with h
      refine ⟨0, ?_, ?_, fun v' => ?_, ?_⟩
      · simp [findM, List.findIdx?_cons, enP, hk, he]
      · cases p; simp_all
      · simp [putA, he]
      · simp [delA, he]
    · rename_i hne
      obtain ⟨i, h1, h2, h3, h4⟩ := findM_some hk l k v h
      refine ⟨i + 1, ?_, by simpa using h2, fun v' => ?_, ?_⟩
      · unfold findM at h1 ⊢
        rw [List.map_cons, List.findIdx?_cons, h1]
        simp [enP, hk, hne]
      · simp [putA, hne, h3]
      · simp [delA, hne, h4]
theorem map_look {t kt et : TypeId} {ek : α → V} {ev : β → V} {id : Nat} {l : List (α × β)} {k : α} {ok : Bool} {z : V} (hk : KeyEq ek) (ht : mapKV P t = some (kt, et)) (hm : MapOf H id kt ek ev l) (ho : keyOk P kt (ek k) = true) (hz : zeroV P et = some z) : lookupV P t H (.map id) (ek k) ok = some (if ok then .tup [((lookA l k).map ev).getD z, .bool (lookA l k).isSome] else ((lookA l k).map ev).getD z) := by
  have hg : getMap H id = some (kt, l.map (enP ek ev)) := by unfold getMap; rw [hm]
  unfold lookupV
  rw [mapKV_eq ht]
  simp only [hg, Option.bind_some]
  rw [if_pos ⟨by simp, ho⟩]
  cases hl : lookA l k with
  | none =>
    rw [(findM_none hk l k hl).1]
    simp [hz]
  | some v =>
    obtain ⟨i, h1, h2, -, -⟩ := findM_some (ev := ev) hk l k v hl
    rw [h1]
    simp [List.getElem?_map, h2, enP]
theorem map_put {t kt et : TypeId} {ek : α → V} {ev : β → V} {id : Nat} {l : List (α × β)} {k : α} {v : β} (hk : KeyEq ek) (ht : mapKV P t = some (kt, et)) (hm : MapOf H id kt ek ev l) (ho : keyOk P kt (ek k) = true) (hv : elemOk (ev v) = true) : updateV P t H (.map id) (ek k) (ev v) = some (H.set id (.map kt ((putA l k v).map (enP ek ev)))) := by
  have hg : getMap H id = some (kt, l.map (enP ek ev)) := by unfold getMap; rw [hm]
  unfold updateV
  rw [mapKV_eq ht]
  simp only [hg, Option.bind_some]
  rw [if_pos ⟨by simp, ho, hv⟩]
  cases hl : lookA l k with
  | none =>
    obtain ⟨h1, h2⟩ := findM_none (ev := ev) hk l k hl
    rw [h1, h2]
    simp [enP]
  | some w =>
    obtain ⟨i, h1, -, h3, -⟩ := findM_some (ev := ev) hk l k w hl
    rw [h1, h3]
    simp [List.map_set, enP]
theorem map_set_of {kt : TypeId} {ek : α → V} {ev : β → V} {id : Nat} {l : List (α × β)} (h : id < H.length) : MapOf (H.set id (.map kt (l.map (enP ek ev)))) id kt ek ev l := by
  unfold MapOf
  rw [List.getElem?_set_self h]
theorem MapOf.lt {kt : TypeId} {ek : α → V} {ev : β → V} {id : Nat} {l : List (α × β)} (h : MapOf H id kt ek ev l) : id < H.length := (List.getElem?_eq_some_iff.1 h).1
theorem MapOf.app {kt : TypeId} {ek : α → V} {ev : β → V} {id : Nat} {l : List (α × β)} (h : MapOf H id kt ek ev l) {L : Hp} : MapOf (H ++ L) id kt ek ev l := by
  unfold MapOf
  rw [List.getElem?_append_left h.lt]; exact h
theorem MapOf.frame {H' : Hp} {kt : TypeId} {ek : α → V} {ev : β → V} {id : Nat} {l : List (α × β)} (h : MapOf H id kt ek ev l) (hf : H'[id]? = H[id]?) : MapOf H' id kt ek ev l := by
  unfold MapOf
  rw [hf]; exact h
theorem map_new {kt : TypeId} {ek : α → V} {ev : β → V} : MapOf (H ++ [.map kt []]) H.length kt ek ev ([] : List (α × β)) := by
  unfold MapOf
  simp
theorem map_len {t kt et : TypeId} {ek : α → V} {ev : β → V} {id : Nat} {l : List (α × β)} (ht : mapKV P t = some (kt, et)) (hm : MapOf H id kt ek ev l) (hl : l.length ≤ 2 ^ 62) : lenV P t H (.map id) = some (.int .i64 l.length) := by
  have hg : getMap H id = some (kt, l.map (enP ek ev)) := by unfold getMap; rw [hm]
  unfold lenV
  rw [mapKV_eq ht]
  simp only [hg, Option.bind_some, List.length_map]
  rw [if_pos hl]
theorem lookA_put (l : List (α × β)) (k k' : α) (v : β) : lookA (putA l k v) k' = if k = k' then some v else lookA l k' := by
  induction l with
  | nil => simp [putA, lookA]
  | cons p l ih =>
    unfold putA
    split
    · rename_i h
      subst h
      by_cases h1 : p.1 = k' <;> simp [lookA, h1]
    · rename_i h
      simp only [lookA, ih]
      by_cases h1 : p.1 = k'
      · have : ¬ k = k' := fun e => h (by rw [h1, e])
        simp [h1, this]
      · simp [h1]
theorem putA_new {l : List (α × β)} {k : α} (h : lookA l k = none) (v : β) : putA l k v = l ++ [(k, v)] := by
  induction l with
  | nil => rfl
  | cons p l ih =>
    unfold lookA at h
    split at h
    · simp at h
    · rename_i hne
      simp [putA, hne, ih h]
theorem lookA_map {γ : Type} (f : γ → α) (g : γ → β) (l : List γ) (k : α) : (lookA (l.map fun x => (f x, g x)) k).isSome = l.any fun x => decide (f x = k) := by
  induction l with
  | nil => rfl
  | cons x l ih =>
    simp only [List.map_cons, lookA, List.any_cons]
    by_cases h : f x = k
    · simp [h]
    · simp [h, ih]
end
end Go.Am
