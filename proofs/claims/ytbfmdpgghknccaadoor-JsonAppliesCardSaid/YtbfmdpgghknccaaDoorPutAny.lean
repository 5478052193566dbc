/- bookref3.put: what it makes of formed trees. -/
import Derived.Test.YtbfmdpgghknccaaDoorPutPlain
namespace Go.Proofs.YtbfmdpgghknccaaDoor
set_option linter.unusedVariables false
set_option linter.unusedSimpArgs false

theorem PT.map_len {T : PT} (h : T.tree.formed = true) (h5 : T.val.k = 5) : T.keys.length = T.kids.length := by
  have := JT.map_len h (by rw [PT.tree_val]; exact h5)
  rw [PT.tree_keys, PT.tree_kids, List.length_map] at this
  exact this
theorem PT.no_keys {T : PT} (h : T.tree.formed = true) (h5 : ¬ T.val.k = 5) : T.keys = [] := by
  have := JT.no_keys h (by rw [PT.tree_val]; exact h5)
  rwa [PT.tree_keys] at this

/-- A kid is set. -/
theorem rput_set (T X : PT) (k : Nat) (key : ByteArray) (S : Nat → Prop) (w : World) (hS : ∀ b, S b → b < w.heap.size) (hT : Lies S w T) (hX : Lies S w X) (hTc : T.Caps) (hXc : X.Caps) (hf : T.tree.formed = true) (hk : k < T.kids.length) (hn : T.kids.length ≤ 1000) (hkey : key.size ≤ maxLen) (hy : T.val.k = 5 → T.keys[k]? = some key) :
    Calls Tryd.prog 44 #[T.value, .int .i64 k, X.value, .bool false, .bool false, .string key] w (PutQ S w (T.tree.setKid k X.tree)) := by
  rw [← JT.putT_set hf X.tree key (by rw [PT.tree_kids, List.length_map]; exact hk) (fun h => by rw [PT.tree_keys]; exact hy (by rwa [PT.tree_val] at h))]
  by_cases h5 : T.val.k = 5
  · exact put_set_map T X k key S w hS hT hX hTc hXc hk hn hkey h5 (PT.map_len hf h5)
  · exact put_set T X k key S w hS hT hX hTc hXc hk hn hkey (by simpa using h5) (by rw [PT.no_keys hf h5]; simp)
/-- A key comes in. -/
theorem rput_ins_map (T X : PT) (k : Nat) (key : ByteArray) (S : Nat → Prop) (w : World) (hS : ∀ b, S b → b < w.heap.size) (hT : Lies S w T) (hX : Lies S w X) (hTc : T.Caps) (hXc : X.Caps) (hf : T.tree.formed = true) (hk : k ≤ T.kids.length) (hn : T.kids.length ≤ 1000) (hkey : key.size ≤ maxLen) (h5 : T.val.k = 5) :
    Calls Tryd.prog 44 #[T.value, .int .i64 k, X.value, .bool true, .bool false, .string key] w (PutQ S w (.node T.val (insAt T.keys k key) (insAt (T.kids.map PT.tree) k X.tree))) := by
  have h := put_ins_map T X k key S w hS hT hX hTc hXc hk hn hkey h5 (PT.map_len hf h5)
  rw [JT.putT_ins_map X.tree key (by rw [PT.tree_val]; exact h5), PT.tree_val, PT.tree_keys, PT.tree_kids] at h
  exact h
/-- A kid comes in. -/
theorem rput_ins (T X : PT) (k : Nat) (key : ByteArray) (S : Nat → Prop) (w : World) (hS : ∀ b, S b → b < w.heap.size) (hT : Lies S w T) (hX : Lies S w X) (hTc : T.Caps) (hXc : X.Caps) (hf : T.tree.formed = true) (hk : k ≤ T.kids.length) (hn : T.kids.length ≤ 1000) (hkey : key.size ≤ maxLen) (h5 : ¬ T.val.k = 5) :
    Calls Tryd.prog 44 #[T.value, .int .i64 k, X.value, .bool true, .bool false, .string key] w (PutQ S w (.node T.val T.keys (insAt (T.kids.map PT.tree) k X.tree))) := by
  have h := put_ins T X k key S w hS hT hX hTc hXc hk hn hkey (by simpa using h5) (by rw [PT.no_keys hf h5]; simp)
  rw [JT.putT_ins hf X.tree key (by rw [PT.tree_val]; exact h5), PT.tree_val, PT.tree_keys, PT.tree_kids] at h
  exact h
/-- A kid goes. -/
theorem rput_del (T X : PT) (k : Nat) (key : ByteArray) (S : Nat → Prop) (w : World) (hS : ∀ b, S b → b < w.heap.size) (hT : Lies S w T) (hX : Lies S w X) (hTc : T.Caps) (hXc : X.Caps) (hf : T.tree.formed = true) (hk : k < T.kids.length) (hn : T.kids.length ≤ 1000) (hkey : key.size ≤ maxLen) :
    Calls Tryd.prog 44 #[T.value, .int .i64 k, X.value, .bool false, .bool true, .string key] w (PutQ S w (.node T.val (if T.val.k = 5 then delAt T.keys k else T.keys) (delAt (T.kids.map PT.tree) k))) := by
  by_cases h5 : T.val.k = 5
  · have h := put_del_map T X k key S w hS hT hX hTc hXc hk hn hkey h5 (PT.map_len hf h5)
    rw [JT.putT_del_map X.tree key (by rw [PT.tree_val]; exact h5), PT.tree_val, PT.tree_keys, PT.tree_kids] at h
    rw [if_pos h5]
    exact h
  · have h := put_del T X k key S w hS hT hX hTc hXc hk hn hkey (by simpa using h5) (by rw [PT.no_keys hf h5]; simp)
    rw [JT.putT_del hf X.tree key (by rw [PT.tree_val]; exact h5), PT.tree_val, PT.tree_keys, PT.tree_kids] at h
    rw [if_neg h5]
    exact h
end Go.Proofs.YtbfmdpgghknccaaDoor
