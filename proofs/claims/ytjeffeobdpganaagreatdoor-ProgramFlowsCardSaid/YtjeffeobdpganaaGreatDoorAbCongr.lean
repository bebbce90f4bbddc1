/- What an operation does not look at does not matter. -/
import Derived.Test.YtjeffeobdpganaaGreatDoorAbGc2
import Derived.Orders
set_option linter.unusedSimpArgs false
set_option linter.unusedVariables false
namespace Go.Ab
section
theorem ev_congr {e e' : Nat → AV} {x : Opd} (hx : ∀ t ∈ x.reads, e t = e' t) : x.ev e = x.ev e' := by
  cases x with
  | t n => exact hx n (by simp [Opd.reads])
  | c v => rfl
theorem lev_congr {e e' : Nat → AV} : ∀ {l : List Opd}, (∀ t ∈ lreads l, e t = e' t) → ∀ x ∈ l, Opd.ev e x = Opd.ev e' x
  | [], _, x, hx => by simp at hx
  | y :: l, h, x, hx => by
    rcases List.mem_cons.1 hx with rfl | hx
    · exact ev_congr fun t ht => h t (List.mem_append_left _ ht)
    · exact lev_congr (fun t ht => h t (List.mem_append_right _ ht)) x hx
theorem oev_congr {e e' : Nat → AV} {x : Option Opd} (hx : ∀ t ∈ oreads x, e t = e' t) : x.map (Opd.ev e) = x.map (Opd.ev e') := by
  cases x with
  | none => rfl
  | some x => simp only [Option.map_some]; rw [ev_congr hx]
theorem all_congr' {α : Type} {p q : α → Bool} : ∀ {l : List α}, (∀ x ∈ l, p x = q x) → l.all p = l.all q
  | [], _ => rfl
  | x :: l, h => by simp only [List.all_cons, h x (by simp), all_congr' (l := l) fun y hy => h y (by simp [hy])]
theorem opv_congr {call : CallO} {e e' : Nat → AV} {m : MOp} (hp : Hp) (h : ∀ t ∈ m.reads, e t = e' t) : opv call (Opd.ev e) hp m = opv call (Opd.ev e') hp m := by
  cases m with
  | mov x =>
    have hx : x.ev e = x.ev e' := ev_congr h
    simp only [opv, evop, hx]
  | box t n x =>
    have hx : x.ev e = x.ev e' := ev_congr h
    simp only [opv, evop, hx]
  | load n ag x =>
    have hx : x.ev e = x.ev e' := ev_congr h
    simp only [opv, evop, hx]
  | nilc x =>
    have hx : x.ev e = x.ev e' := ev_congr h
    simp only [opv, evop, hx]
  | nilb kd ng x =>
    have hx : x.ev e = x.ev e' := ev_congr h
    simp only [opv, evop, hx]
  | not x =>
    have hx : x.ev e = x.ev e' := ev_congr h
    simp only [opv, evop, hx]
  | neg x =>
    have hx : x.ev e = x.ev e' := ev_congr h
    simp only [opv, evop, hx]
  | xor x =>
    have hx : x.ev e = x.ev e' := ev_congr h
    simp only [opv, evop, hx]
  | conv k x =>
    have hx : x.ev e = x.ev e' := ev_congr h
    simp only [opv, evop, hx]
  | cvs x =>
    have hx : x.ev e = x.ev e' := ev_congr h
    simp only [opv, evop, hx]
  | bstr x =>
    have hx : x.ev e = x.ev e' := ev_congr h
    simp only [opv, evop, hx]
  | lit x =>
    have hx : x.ev e = x.ev e' := ev_congr h
    simp only [opv, evop, hx]
  | fa o x =>
    have hx : x.ev e = x.ev e' := ev_congr h
    simp only [opv, evop, hx]
  | lenS x =>
    have hx : x.ev e = x.ev e' := ev_congr h
    simp only [opv, evop, hx]
  | lenL x =>
    have hx : x.ev e = x.ev e' := ev_congr h
    simp only [opv, evop, hx]
  | ext x i =>
    have hx : x.ev e = x.ev e' := ev_congr h
    simp only [opv, evop, hx]
  | mksl t z b x =>
    have hx : x.ev e = x.ev e' := ev_congr h
    simp only [opv, evop, hx]
  | mki t x =>
    have hx : x.ev e = x.ev e' := ev_congr h
    simp only [opv, evop, hx]
  | tas t z x =>
    have hx : x.ev e = x.ev e' := ev_congr h
    simp only [opv, evop, hx]
  | rngs x =>
    have hx : x.ev e = x.ev e' := ev_congr h
    simp only [opv, evop, hx]
  | nxts x =>
    have hx : x.ev e = x.ev e' := ev_congr h
    simp only [opv, evop, hx]
  | fld o n ag x =>
    have hx : x.ev e = x.ev e' := ev_congr h
    simp only [opv, evop, hx]
  | clr z x =>
    have hx : x.ev e = x.ev e' := ev_congr h
    simp only [opv, evop, hx]
  | upc t n x =>
    have hx : x.ev e = x.ev e' := ev_congr h
    simp only [opv, evop, hx]
  | usd x =>
    have hx : x.ev e = x.ev e' := ev_congr h
    simp only [opv, evop, hx]
  | store n x y =>
    have hx : x.ev e = x.ev e' := ev_congr fun t ht => h t (List.mem_append_left _ ht)
    have hy : y.ev e = y.ev e' := ev_congr fun t ht => h t (List.mem_append_right _ ht)
    simp only [opv, evop, hx, hy]
  | int op x y =>
    have hx : x.ev e = x.ev e' := ev_congr fun t ht => h t (List.mem_append_left _ ht)
    have hy : y.ev e = y.ev e' := ev_congr fun t ht => h t (List.mem_append_right _ ht)
    simp only [opv, evop, hx, hy]
  | strb op x y =>
    have hx : x.ev e = x.ev e' := ev_congr fun t ht => h t (List.mem_append_left _ ht)
    have hy : y.ev e = y.ev e' := ev_congr fun t ht => h t (List.mem_append_right _ ht)
    simp only [opv, evop, hx, hy]
  | boolb ng x y =>
    have hx : x.ev e = x.ev e' := ev_congr fun t ht => h t (List.mem_append_left _ ht)
    have hy : y.ev e = y.ev e' := ev_congr fun t ht => h t (List.mem_append_right _ ht)
    simp only [opv, evop, hx, hy]
  | aggb ng ks x y =>
    have hx : x.ev e = x.ev e' := ev_congr fun t ht => h t (List.mem_append_left _ ht)
    have hy : y.ev e = y.ev e' := ev_congr fun t ht => h t (List.mem_append_right _ ht)
    simp only [opv, evop, hx, hy]
  | ia s x y =>
    have hx : x.ev e = x.ev e' := ev_congr fun t ht => h t (List.mem_append_left _ ht)
    have hy : y.ev e = y.ev e' := ev_congr fun t ht => h t (List.mem_append_right _ ht)
    simp only [opv, evop, hx, hy]
  | iaa s l x y =>
    have hx : x.ev e = x.ev e' := ev_congr fun t ht => h t (List.mem_append_left _ ht)
    have hy : y.ev e = y.ev e' := ev_congr fun t ht => h t (List.mem_append_right _ ht)
    simp only [opv, evop, hx, hy]
  | idx x y =>
    have hx : x.ev e = x.ev e' := ev_congr fun t ht => h t (List.mem_append_left _ ht)
    have hy : y.ev e = y.ev e' := ev_congr fun t ht => h t (List.mem_append_right _ ht)
    simp only [opv, evop, hx, hy]
  | app t s b x y =>
    have hx : x.ev e = x.ev e' := ev_congr fun t ht => h t (List.mem_append_left _ ht)
    have hy : y.ev e = y.ev e' := ev_congr fun t ht => h t (List.mem_append_right _ ht)
    simp only [opv, evop, hx, hy]
  | apps t b x y =>
    have hx : x.ev e = x.ev e' := ev_congr fun t ht => h t (List.mem_append_left _ ht)
    have hy : y.ev e = y.ev e' := ev_congr fun t ht => h t (List.mem_append_right _ ht)
    simp only [opv, evop, hx, hy]
  | minmax m x y =>
    have hx : x.ev e = x.ev e' := ev_congr fun t ht => h t (List.mem_append_left _ ht)
    have hy : y.ev e = y.ev e' := ev_congr fun t ht => h t (List.mem_append_right _ ht)
    simp only [opv, evop, hx, hy]
  | mget st z ok x y =>
    have hx : x.ev e = x.ev e' := ev_congr fun t ht => h t (List.mem_append_left _ ht)
    have hy : y.ev e = y.ev e' := ev_congr fun t ht => h t (List.mem_append_right _ ht)
    simp only [opv, evop, hx, hy]
  | psame ng x y =>
    have hx : x.ev e = x.ev e' := ev_congr fun t ht => h t (List.mem_append_left _ ht)
    have hy : y.ev e = y.ev e' := ev_congr fun t ht => h t (List.mem_append_right _ ht)
    simp only [opv, evop, hx, hy]
  | ust t x y =>
    have hx : x.ev e = x.ev e' := ev_congr fun t ht => h t (List.mem_append_left _ ht)
    have hy : y.ev e = y.ev e' := ev_congr fun t ht => h t (List.mem_append_right _ ht)
    simp only [opv, evop, hx, hy]
  | pick x y z =>
    have hx : x.ev e = x.ev e' := ev_congr fun t ht => h t (List.mem_append_left _ ht)
    have hy : y.ev e = y.ev e' := ev_congr fun t ht => h t (List.mem_append_right _ (List.mem_append_left _ ht))
    have hz : z.ev e = z.ev e' := ev_congr fun t ht => h t (List.mem_append_right _ (List.mem_append_right _ ht))
    simp only [opv, evop, hx, hy, hz]
  | mset st x y z =>
    have hx : x.ev e = x.ev e' := ev_congr fun t ht => h t (List.mem_append_left _ ht)
    have hy : y.ev e = y.ev e' := ev_congr fun t ht => h t (List.mem_append_right _ (List.mem_append_left _ ht))
    have hz : z.ev e = z.ev e' := ev_congr fun t ht => h t (List.mem_append_right _ (List.mem_append_right _ ht))
    simp only [opv, evop, hx, hy, hz]
  | sstr x lo hi =>
    have hx : x.ev e = x.ev e' := ev_congr fun t ht => h t (List.mem_append_left _ ht)
    have hy : lo.map (Opd.ev e) = lo.map (Opd.ev e') := oev_congr fun t ht => h t (List.mem_append_right _ (List.mem_append_left _ ht))
    have hz : hi.map (Opd.ev e) = hi.map (Opd.ev e') := oev_congr fun t ht => h t (List.mem_append_right _ (List.mem_append_right _ ht))
    simp only [opv, evop, hx, hy, hz]
  | ssl s x lo hi =>
    have hx : x.ev e = x.ev e' := ev_congr fun t ht => h t (List.mem_append_left _ ht)
    have hy : lo.map (Opd.ev e) = lo.map (Opd.ev e') := oev_congr fun t ht => h t (List.mem_append_right _ (List.mem_append_left _ ht))
    have hz : hi.map (Opd.ev e) = hi.map (Opd.ev e') := oev_congr fun t ht => h t (List.mem_append_right _ (List.mem_append_right _ ht))
    simp only [opv, evop, hx, hy, hz]
  | mkm => rfl
  | nop _ => rfl
  | mkml st ps =>
    have hq : ps.map (fun p => (p.1, e p.2)) = ps.map (fun p => (p.1, e' p.2)) := List.map_congr_left fun p hp => by rw [h p.2 (List.mem_map.2 ⟨p, hp, rfl⟩)]
    simp only [opv, evop, Opd.ev, hq]
  | bad => rfl
  | pan x =>
    have hx : x.ev e = x.ev e' := ev_congr h
    simp only [opv, hx]
  | mkf f cap =>
    have hx : cap.map (Opd.ev e) = cap.map (Opd.ev e') := List.map_congr_left (lev_congr h)
    simp only [opv, evop, hx]
  | call f args =>
    have hx : f.ev e = f.ev e' := ev_congr fun t ht => h t (List.mem_append_left _ ht)
    have hy : args.map (Opd.ev e) = args.map (Opd.ev e') := List.map_congr_left (lev_congr fun t ht => h t (List.mem_append_right _ ht))
    simp only [opv, hx, hy]
  | build z ps =>
    have hq : ∀ p ∈ ps, p.2.2.ev e = p.2.2.ev e' := fun p hp => lev_congr h _ (List.mem_map.2 ⟨p, hp, rfl⟩)
    have hx : ps.map (fun p => (p.1, p.2.2.ev e)) = ps.map (fun p => (p.1, p.2.2.ev e')) := List.map_congr_left fun p hp => by rw [hq p hp]
    have hy : ps.all (fun p => (p.2.2.ev e).cells.length == p.2.1 && !(p.2.2.ev e).isTup) = ps.all (fun p => (p.2.2.ev e').cells.length == p.2.1 && !(p.2.2.ev e').isTup) := all_congr' fun p hp => by rw [hq p hp]
    simp only [opv, evop, hx, hy]
  | bslice z n ps =>
    have hq : ∀ p ∈ ps, p.2.ev e = p.2.ev e' := fun p hp => lev_congr h _ (List.mem_map.2 ⟨p, hp, rfl⟩)
    have hx : ps.map (fun p => (p.1, p.2.ev e)) = ps.map (fun p => (p.1, p.2.ev e')) := List.map_congr_left fun p hp => by rw [hq p hp]
    simp only [opv, evop, hx]
theorem evop_light {E : Opd → AV} {hp hp' : Hp} {m : MOp} {v : AV} (hl : m.light = true) (h : evop E hp m = some (v, hp')) : hp' = hp := by
  cases m <;> simp only [MOp.light, Bool.false_eq_true] at hl
  all_goals simp only [evop] at h
  all_goals
    repeat' (first
      | (cases h; done)
      | split at h
      | (injection h with h; injection h with h1 h2; exact h2.symm)
      | (rw [Option.map_eq_some_iff] at h; obtain ⟨a, _, h⟩ := h)
      | (rw [Option.bind_eq_some_iff] at h; obtain ⟨a, _, h⟩ := h)
      | (injection h with h1 h2; exact h2.symm))
theorem opv_light {call : CallO} {E : Opd → AV} {hp : Hp} {m : MOp} (hl : m.light = true) : opv call E hp m = (evop E hp m).map fun r => (.ret r.1, r.2) := by
  cases m <;> first | rfl | cases hl
theorem grd_congr {e e' : Nat → AV} {i : Option (Nat × Bool)} (h : ∀ t b, i = some (t, b) → e t = e' t) : grd i e = grd i e' := by
  cases i with
  | none => rfl
  | some p => obtain ⟨t, b⟩ := p; simp only [grd, h t b rfl]
end
end Go.Ab
