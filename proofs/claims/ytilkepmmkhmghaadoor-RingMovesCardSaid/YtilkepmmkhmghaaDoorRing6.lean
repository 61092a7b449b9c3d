/- A ring in plain Lean: how many are picked. No program here. -/
import Derived.Test.YtilkepmmkhmghaaDoorRing5
namespace Go.Tum
theorem turned_mem {L : List Plc} {f : Nat} {p : Plc} : p ∈ turned L f ↔ p ∈ L := by
  unfold turned
  rw [(List.perm_append_comm).mem_iff, List.take_append_drop]
theorem picked_mem {c : Nat} (hc : 0 < c) {N : List Tx} {f : Nat} (x : Tx) : x ∈ dd [] ((turned (placesOf c N) f).map (·.2)) ↔ x ∈ N := by
  rw [dd_mem, List.mem_map]
  constructor
  · rintro (h | ⟨p, hp, rfl⟩)
    · cases h
    · exact placesOf_mem (turned_mem.1 hp)
  · intro h
    obtain ⟨p, hp, e⟩ := placesOf_has hc h
    exact .inr ⟨p, turned_mem.2 hp, e⟩
theorem picked_perm {c : Nat} (hc : 0 < c) {N : List Tx} (hN : N.Nodup) (f : Nat) : (dd [] ((turned (placesOf c N) f).map (·.2))).Perm N :=
  (List.perm_ext_iff_of_nodup (dd_nodup _ _ List.nodup_nil) hN).2 fun x => picked_mem hc x
/-- All nodes, from a hash on. -/
def allV (L : List Plc) (h : Nat) : List Tx := dd [] ((turned L (pickV.posOf L h)).map (·.2))
theorem allV_perm {c : Nat} (hc : 0 < c) {N : List Tx} (hN : N.Nodup) (h : Nat) : (allV (placesOf c N) h).Perm N := picked_perm hc hN _
theorem pick_take (L : List Plc) (h : Nat) (n : Int) : pickV L h n = (allV L h).take n.toNat := by
  unfold pickV allV
  split
  · rw [show n.toNat = 0 by omega]; rfl
  · rfl
theorem pick_len {c : Nat} (hc : 0 < c) {N : List Tx} (hN : N.Nodup) (h : Nat) (n : Int) : (pickV (placesOf c N) h n).length = min n.toNat N.length := by
  rw [pick_take, List.length_take, (allV_perm hc hN h).length_eq]
theorem getV_eq (L : List Plc) (h : Nat) : getV L h = match allV L h with
  | [] => ([], false)
  | x :: _ => (x, true) := by
  unfold getV
  rw [pick_take]
  cases allV L h <;> rfl
end Go.Tum
