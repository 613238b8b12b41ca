/- What these functions give, and that the law FnExactStepCore gives true. -/
import Derived.Test.YthdbglhdadinkaaCFnExactStepCore
namespace Go.Proofs.Ythdbglhdadinkaa.AI
open Go.Proofs
set_option linter.all false
set_option maxRecDepth 100000
structure DNode where
  Kind : Int
  Num : Int
  Name : ByteArray
  More : ByteArray
  To : ByteArray
  Kids : List (Int)
abbrev cNode (x : DNode) : List AV := [.int .i64 x.Kind, .int .i64 x.Num, .str x.Name, .str x.More, .str x.To, .tree 1 (x.Kids.map cI)]
def wtNode (x : DNode) : Nat := x.Name.size + x.More.size + x.To.size + x.Kids.length
def gdNode (x : DNode) : Prop := i64 x.Kind ∧ i64 x.Num ∧ gdS x.Name ∧ gdS x.More ∧ gdS x.To ∧ (x.Kids.length ≤ 140737488351232 ∧ ∀ y ∈ x.Kids, i64 y)
def mkNode (x : DNode) (k : Int) : DNode := { Kind := k, Num := (k + 1), Name := (mT ((k + 1) + 1)), More := (mT (((k + 1) + 1) + 1)), To := (mT ((((k + 1) + 1) + 1) + 1)), Kids := mkL mkI ct1 x.Kids (((((k + 1) + 1) + 1) + 1) + 1) }
def ctNode (x : DNode) : Nat := 1 + 1 + 1 + 1 + 1 + tot ct1 x.Kids
theorem ctle_Node (x : DNode) : ctNode x ≤ 5 * (1 + wtNode x) := by
  have h0 := tot_ct1 x.Kids
  unfold ctNode
  simp only [wtNode] at *
  omega
theorem tctle_Node (xs : List DNode) : tot ctNode xs ≤ 5 * (xs.length + tot wtNode xs) := tot_ct_le ctle_Node xs
def mwNode (x : DNode) (k : Int) : DNode := { Kind := x.Kind, Num := x.Num, Name := x.Name, More := x.More, To := x.To, Kids := mkL mkI ct1 x.Kids k }
def cwNode (x : DNode) : Nat := tot ct1 x.Kids
theorem set_cNode {xs : List DNode} {n : Nat} {x : DNode} : (xs.map cNode).set n [.int .i64 x.Kind, .int .i64 x.Num, .str x.Name, .str x.More, .str x.To, .tree 1 (x.Kids.map cI)] = (xs.set n x).map cNode := by rw [List.map_set]
theorem snoc_cNode {xs : List DNode} {x : DNode} : xs.map cNode ++ [[.int .i64 x.Kind, .int .i64 x.Num, .str x.Name, .str x.More, .str x.To, .tree 1 (x.Kids.map cI)]] = (xs ++ [x]).map cNode := by simp
theorem solid_cNode {xs : List DNode} : solid (xs.map cNode) = true := solid_map fun _ => rfl
structure DEntry where
  Name : ByteArray
  Param : ByteArray
  Body : Int
abbrev cEntry (x : DEntry) : List AV := [.str x.Name, .str x.Param, .int .i64 x.Body]
def wtEntry (x : DEntry) : Nat := x.Name.size + x.Param.size
def gdEntry (x : DEntry) : Prop := gdS x.Name ∧ gdS x.Param ∧ i64 x.Body
def mkEntry (x : DEntry) (k : Int) : DEntry := { Name := (mT k), Param := (mT (k + 1)), Body := ((k + 1) + 1) }
def ctEntry (x : DEntry) : Nat := 1 + 1 + 1
theorem ctle_Entry (x : DEntry) : ctEntry x ≤ 3 * (1 + wtEntry x) := by
  unfold ctEntry
  simp only [wtEntry] at *
  omega
theorem tctle_Entry (xs : List DEntry) : tot ctEntry xs ≤ 3 * (xs.length + tot wtEntry xs) := tot_ct_le ctle_Entry xs
theorem flat_cEntry {xs : List DEntry} : flat (xs.map cEntry) = true := flat_map fun _ => rfl
theorem set_cEntry {xs : List DEntry} {n : Nat} {x : DEntry} : (xs.map cEntry).set n [.str x.Name, .str x.Param, .int .i64 x.Body] = (xs.set n x).map cEntry := by rw [List.map_set]
theorem snoc_cEntry {xs : List DEntry} {x : DEntry} : xs.map cEntry ++ [[.str x.Name, .str x.Param, .int .i64 x.Body]] = (xs ++ [x]).map cEntry := by simp
theorem solid_cEntry {xs : List DEntry} : solid (xs.map cEntry) = true := solid_map fun _ => rfl
structure DMonitor where
  Name : ByteArray
  Vars : List (ByteArray)
  Queues : List (ByteArray)
  Entries : List (DEntry)
abbrev cMonitor (x : DMonitor) : List AV := [.str x.Name, .tree 1 (x.Vars.map cS), .tree 1 (x.Queues.map cS), .tree 3 (x.Entries.map cEntry)]
def wtMonitor (x : DMonitor) : Nat := x.Name.size + (x.Vars.length + tot wtS x.Vars) + (x.Queues.length + tot wtS x.Queues) + (x.Entries.length + tot wtEntry x.Entries)
def gdMonitor (x : DMonitor) : Prop := gdS x.Name ∧ (x.Vars.length ≤ 140737488351232 ∧ ∀ y ∈ x.Vars, gdS y) ∧ (x.Queues.length ≤ 140737488351232 ∧ ∀ y ∈ x.Queues, gdS y) ∧ (x.Entries.length ≤ 140737488351232 ∧ ∀ y ∈ x.Entries, gdEntry y)
def mkMonitor (x : DMonitor) (k : Int) : DMonitor := { Name := (mT k), Vars := mkL mkS ct1 x.Vars (k + 1), Queues := mkL mkS ct1 x.Queues ((k + 1) + (tot ct1 x.Vars : Nat)), Entries := mkL mkEntry ctEntry x.Entries (((k + 1) + (tot ct1 x.Vars : Nat)) + (tot ct1 x.Queues : Nat)) }
def ctMonitor (x : DMonitor) : Nat := 1 + tot ct1 x.Vars + tot ct1 x.Queues + tot ctEntry x.Entries
theorem ctle_Monitor (x : DMonitor) : ctMonitor x ≤ 3 * (1 + wtMonitor x) := by
  have h0 := tot_ct1 x.Vars
  have h1 := tot_ct1 x.Queues
  have h2 := tctle_Entry x.Entries
  unfold ctMonitor
  simp only [wtMonitor] at *
  omega
theorem tctle_Monitor (xs : List DMonitor) : tot ctMonitor xs ≤ 3 * (xs.length + tot wtMonitor xs) := tot_ct_le ctle_Monitor xs
def mwMonitor (x : DMonitor) (k : Int) : DMonitor := { Name := x.Name, Vars := mkL mkS ct1 x.Vars k, Queues := mkL mkS ct1 x.Queues (k + (tot ct1 x.Vars : Nat)), Entries := mkL mkEntry ctEntry x.Entries ((k + (tot ct1 x.Vars : Nat)) + (tot ct1 x.Queues : Nat)) }
def cwMonitor (x : DMonitor) : Nat := tot ct1 x.Vars + tot ct1 x.Queues + tot ctEntry x.Entries
theorem set_cMonitor {xs : List DMonitor} {n : Nat} {x : DMonitor} : (xs.map cMonitor).set n [.str x.Name, .tree 1 (x.Vars.map cS), .tree 1 (x.Queues.map cS), .tree 3 (x.Entries.map cEntry)] = (xs.set n x).map cMonitor := by rw [List.map_set]
theorem snoc_cMonitor {xs : List DMonitor} {x : DMonitor} : xs.map cMonitor ++ [[.str x.Name, .tree 1 (x.Vars.map cS), .tree 1 (x.Queues.map cS), .tree 3 (x.Entries.map cEntry)]] = (xs ++ [x]).map cMonitor := by simp
theorem solid_cMonitor {xs : List DMonitor} : solid (xs.map cMonitor) = true := solid_map fun _ => rfl
structure DProcess where
  Name : ByteArray
  Uses : List (ByteArray)
  Vars : List (ByteArray)
  Body : Int
abbrev cProcess (x : DProcess) : List AV := [.str x.Name, .tree 1 (x.Uses.map cS), .tree 1 (x.Vars.map cS), .int .i64 x.Body]
def wtProcess (x : DProcess) : Nat := x.Name.size + (x.Uses.length + tot wtS x.Uses) + (x.Vars.length + tot wtS x.Vars)
def gdProcess (x : DProcess) : Prop := gdS x.Name ∧ (x.Uses.length ≤ 140737488351232 ∧ ∀ y ∈ x.Uses, gdS y) ∧ (x.Vars.length ≤ 140737488351232 ∧ ∀ y ∈ x.Vars, gdS y) ∧ i64 x.Body
def mkProcess (x : DProcess) (k : Int) : DProcess := { Name := (mT k), Uses := mkL mkS ct1 x.Uses (k + 1), Vars := mkL mkS ct1 x.Vars ((k + 1) + (tot ct1 x.Uses : Nat)), Body := (((k + 1) + (tot ct1 x.Uses : Nat)) + (tot ct1 x.Vars : Nat)) }
def ctProcess (x : DProcess) : Nat := 1 + tot ct1 x.Uses + tot ct1 x.Vars + 1
theorem ctle_Process (x : DProcess) : ctProcess x ≤ 2 * (1 + wtProcess x) := by
  have h0 := tot_ct1 x.Uses
  have h1 := tot_ct1 x.Vars
  unfold ctProcess
  simp only [wtProcess] at *
  omega
theorem tctle_Process (xs : List DProcess) : tot ctProcess xs ≤ 2 * (xs.length + tot wtProcess xs) := tot_ct_le ctle_Process xs
def mwProcess (x : DProcess) (k : Int) : DProcess := { Name := x.Name, Uses := mkL mkS ct1 x.Uses k, Vars := mkL mkS ct1 x.Vars (k + (tot ct1 x.Uses : Nat)), Body := x.Body }
def cwProcess (x : DProcess) : Nat := tot ct1 x.Uses + tot ct1 x.Vars
theorem set_cProcess {xs : List DProcess} {n : Nat} {x : DProcess} : (xs.map cProcess).set n [.str x.Name, .tree 1 (x.Uses.map cS), .tree 1 (x.Vars.map cS), .int .i64 x.Body] = (xs.set n x).map cProcess := by rw [List.map_set]
theorem snoc_cProcess {xs : List DProcess} {x : DProcess} : xs.map cProcess ++ [[.str x.Name, .tree 1 (x.Uses.map cS), .tree 1 (x.Vars.map cS), .int .i64 x.Body]] = (xs ++ [x]).map cProcess := by simp
theorem solid_cProcess {xs : List DProcess} : solid (xs.map cProcess) = true := solid_map fun _ => rfl
structure DProgram where
  Nodes : List (DNode)
  Monitors : List (DMonitor)
  Processes : List (DProcess)
abbrev cProgram (x : DProgram) : List AV := [.tree 6 (x.Nodes.map cNode), .tree 4 (x.Monitors.map cMonitor), .tree 4 (x.Processes.map cProcess)]
def wtProgram (x : DProgram) : Nat := (x.Nodes.length + tot wtNode x.Nodes) + (x.Monitors.length + tot wtMonitor x.Monitors) + (x.Processes.length + tot wtProcess x.Processes)
def gdProgram (x : DProgram) : Prop := (x.Nodes.length ≤ 140737488351232 ∧ ∀ y ∈ x.Nodes, gdNode y) ∧ (x.Monitors.length ≤ 140737488351232 ∧ ∀ y ∈ x.Monitors, gdMonitor y) ∧ (x.Processes.length ≤ 140737488351232 ∧ ∀ y ∈ x.Processes, gdProcess y)
def mkProgram (x : DProgram) (k : Int) : DProgram := { Nodes := mkL mkNode ctNode x.Nodes k, Monitors := mkL mkMonitor ctMonitor x.Monitors (k + (tot ctNode x.Nodes : Nat)), Processes := mkL mkProcess ctProcess x.Processes ((k + (tot ctNode x.Nodes : Nat)) + (tot ctMonitor x.Monitors : Nat)) }
def ctProgram (x : DProgram) : Nat := tot ctNode x.Nodes + tot ctMonitor x.Monitors + tot ctProcess x.Processes
theorem ctle_Program (x : DProgram) : ctProgram x ≤ 5 * (1 + wtProgram x) := by
  have h0 := tctle_Node x.Nodes
  have h1 := tctle_Monitor x.Monitors
  have h2 := tctle_Process x.Processes
  unfold ctProgram
  simp only [wtProgram] at *
  omega
theorem tctle_Program (xs : List DProgram) : tot ctProgram xs ≤ 5 * (xs.length + tot wtProgram xs) := tot_ct_le ctle_Program xs
def mwProgram (x : DProgram) (k : Int) : DProgram := { Nodes := mkL mkNode ctNode x.Nodes k, Monitors := mkL mkMonitor ctMonitor x.Monitors (k + (tot ctNode x.Nodes : Nat)), Processes := mkL mkProcess ctProcess x.Processes ((k + (tot ctNode x.Nodes : Nat)) + (tot ctMonitor x.Monitors : Nat)) }
def cwProgram (x : DProgram) : Nat := tot ctNode x.Nodes + tot ctMonitor x.Monitors + tot ctProcess x.Processes
theorem set_cProgram {xs : List DProgram} {n : Nat} {x : DProgram} : (xs.map cProgram).set n [.tree 6 (x.Nodes.map cNode), .tree 4 (x.Monitors.map cMonitor), .tree 4 (x.Processes.map cProcess)] = (xs.set n x).map cProgram := by rw [List.map_set]
theorem snoc_cProgram {xs : List DProgram} {x : DProgram} : xs.map cProgram ++ [[.tree 6 (x.Nodes.map cNode), .tree 4 (x.Monitors.map cMonitor), .tree 4 (x.Processes.map cProcess)]] = (xs ++ [x]).map cProgram := by simp
theorem solid_cProgram {xs : List DProgram} : solid (xs.map cProgram) = true := solid_map fun _ => rfl
structure DGate where
  Owner : Int
  Waits : List (Int)
  Queues : List (Int)
abbrev cGate (x : DGate) : List AV := [.int .i64 x.Owner, .tree 1 (x.Waits.map cI), .tree 1 (x.Queues.map cI)]
def wtGate (x : DGate) : Nat := x.Waits.length + x.Queues.length
def gdGate (x : DGate) : Prop := i64 x.Owner ∧ (x.Waits.length ≤ 140737488351232 ∧ ∀ y ∈ x.Waits, i64 y) ∧ (x.Queues.length ≤ 140737488351232 ∧ ∀ y ∈ x.Queues, i64 y)
def mkGate (x : DGate) (k : Int) : DGate := { Owner := k, Waits := mkL mkI ct1 x.Waits (k + 1), Queues := mkL mkI ct1 x.Queues ((k + 1) + (tot ct1 x.Waits : Nat)) }
def ctGate (x : DGate) : Nat := 1 + tot ct1 x.Waits + tot ct1 x.Queues
theorem ctle_Gate (x : DGate) : ctGate x ≤ 1 * (1 + wtGate x) := by
  have h0 := tot_ct1 x.Waits
  have h1 := tot_ct1 x.Queues
  unfold ctGate
  simp only [wtGate] at *
  omega
theorem tctle_Gate (xs : List DGate) : tot ctGate xs ≤ 1 * (xs.length + tot wtGate xs) := tot_ct_le ctle_Gate xs
def mwGate (x : DGate) (k : Int) : DGate := { Owner := x.Owner, Waits := mkL mkI ct1 x.Waits k, Queues := mkL mkI ct1 x.Queues (k + (tot ct1 x.Waits : Nat)) }
def cwGate (x : DGate) : Nat := tot ct1 x.Waits + tot ct1 x.Queues
theorem set_cGate {xs : List DGate} {n : Nat} {x : DGate} : (xs.map cGate).set n [.int .i64 x.Owner, .tree 1 (x.Waits.map cI), .tree 1 (x.Queues.map cI)] = (xs.set n x).map cGate := by rw [List.map_set]
theorem snoc_cGate {xs : List DGate} {x : DGate} : xs.map cGate ++ [[.int .i64 x.Owner, .tree 1 (x.Waits.map cI), .tree 1 (x.Queues.map cI)]] = (xs ++ [x]).map cGate := by simp
theorem solid_cGate {xs : List DGate} : solid (xs.map cGate) = true := solid_map fun _ => rfl
structure DCore where
  Regs : List (Int)
  Pc : Int
  Process : Int
abbrev cCore (x : DCore) : List AV := [.tree 1 (x.Regs.map cI), .int .i64 x.Pc, .int .i64 x.Process]
def wtCore (x : DCore) : Nat := x.Regs.length
def gdCore (x : DCore) : Prop := (x.Regs.length ≤ 140737488351232 ∧ ∀ y ∈ x.Regs, i64 y) ∧ i64 x.Pc ∧ i64 x.Process
def mkCore (x : DCore) (k : Int) : DCore := { Regs := mkL mkI ct1 x.Regs k, Pc := (k + (tot ct1 x.Regs : Nat)), Process := ((k + (tot ct1 x.Regs : Nat)) + 1) }
def ctCore (x : DCore) : Nat := tot ct1 x.Regs + 1 + 1
theorem ctle_Core (x : DCore) : ctCore x ≤ 2 * (1 + wtCore x) := by
  have h0 := tot_ct1 x.Regs
  unfold ctCore
  simp only [wtCore] at *
  omega
theorem tctle_Core (xs : List DCore) : tot ctCore xs ≤ 2 * (xs.length + tot wtCore xs) := tot_ct_le ctle_Core xs
def mwCore (x : DCore) (k : Int) : DCore := { Regs := mkL mkI ct1 x.Regs k, Pc := x.Pc, Process := x.Process }
def cwCore (x : DCore) : Nat := tot ct1 x.Regs
theorem set_cCore {xs : List DCore} {n : Nat} {x : DCore} : (xs.map cCore).set n [.tree 1 (x.Regs.map cI), .int .i64 x.Pc, .int .i64 x.Process] = (xs.set n x).map cCore := by rw [List.map_set]
theorem snoc_cCore {xs : List DCore} {x : DCore} : xs.map cCore ++ [[.tree 1 (x.Regs.map cI), .int .i64 x.Pc, .int .i64 x.Process]] = (xs ++ [x]).map cCore := by simp
theorem solid_cCore {xs : List DCore} : solid (xs.map cCore) = true := solid_map fun _ => rfl
structure DImage where
  Text : List (Int)
  Starts : List (Int)
  Size : Int
abbrev cImage (x : DImage) : List AV := [.tree 1 (x.Text.map cI), .tree 1 (x.Starts.map cI), .int .i64 x.Size]
def wtImage (x : DImage) : Nat := x.Text.length + x.Starts.length
def gdImage (x : DImage) : Prop := (x.Text.length ≤ 140737488351232 ∧ ∀ y ∈ x.Text, i64 y) ∧ (x.Starts.length ≤ 140737488351232 ∧ ∀ y ∈ x.Starts, i64 y) ∧ i64 x.Size
def mkImage (x : DImage) (k : Int) : DImage := { Text := mkL mkI ct1 x.Text k, Starts := mkL mkI ct1 x.Starts (k + (tot ct1 x.Text : Nat)), Size := ((k + (tot ct1 x.Text : Nat)) + (tot ct1 x.Starts : Nat)) }
def ctImage (x : DImage) : Nat := tot ct1 x.Text + tot ct1 x.Starts + 1
theorem ctle_Image (x : DImage) : ctImage x ≤ 1 * (1 + wtImage x) := by
  have h0 := tot_ct1 x.Text
  have h1 := tot_ct1 x.Starts
  unfold ctImage
  simp only [wtImage] at *
  omega
theorem tctle_Image (xs : List DImage) : tot ctImage xs ≤ 1 * (xs.length + tot wtImage xs) := tot_ct_le ctle_Image xs
def mwImage (x : DImage) (k : Int) : DImage := { Text := mkL mkI ct1 x.Text k, Starts := mkL mkI ct1 x.Starts (k + (tot ct1 x.Text : Nat)), Size := x.Size }
def cwImage (x : DImage) : Nat := tot ct1 x.Text + tot ct1 x.Starts
theorem set_cImage {xs : List DImage} {n : Nat} {x : DImage} : (xs.map cImage).set n [.tree 1 (x.Text.map cI), .tree 1 (x.Starts.map cI), .int .i64 x.Size] = (xs.set n x).map cImage := by rw [List.map_set]
theorem snoc_cImage {xs : List DImage} {x : DImage} : xs.map cImage ++ [[.tree 1 (x.Text.map cI), .tree 1 (x.Starts.map cI), .int .i64 x.Size]] = (xs ++ [x]).map cImage := by simp
theorem solid_cImage {xs : List DImage} : solid (xs.map cImage) = true := solid_map fun _ => rfl
structure DKernel where
  Gates : List (DGate)
  Ready : List (Int)
  Saved : List (DCore)
  Over : List (Bool)
abbrev cKernel (x : DKernel) : List AV := [.tree 3 (x.Gates.map cGate), .tree 1 (x.Ready.map cI), .tree 3 (x.Saved.map cCore), .tree 1 (x.Over.map cB)]
def wtKernel (x : DKernel) : Nat := (x.Gates.length + tot wtGate x.Gates) + x.Ready.length + (x.Saved.length + tot wtCore x.Saved) + x.Over.length
def gdKernel (x : DKernel) : Prop := (x.Gates.length ≤ 140737488351232 ∧ ∀ y ∈ x.Gates, gdGate y) ∧ (x.Ready.length ≤ 140737488351232 ∧ ∀ y ∈ x.Ready, i64 y) ∧ (x.Saved.length ≤ 140737488351232 ∧ ∀ y ∈ x.Saved, gdCore y) ∧ (x.Over.length ≤ 140737488351232)
def mkKernel (x : DKernel) (k : Int) : DKernel := { Gates := mkL mkGate ctGate x.Gates k, Ready := mkL mkI ct1 x.Ready (k + (tot ctGate x.Gates : Nat)), Saved := mkL mkCore ctCore x.Saved ((k + (tot ctGate x.Gates : Nat)) + (tot ct1 x.Ready : Nat)), Over := mkL mkB ct1 x.Over (((k + (tot ctGate x.Gates : Nat)) + (tot ct1 x.Ready : Nat)) + (tot ctCore x.Saved : Nat)) }
def ctKernel (x : DKernel) : Nat := tot ctGate x.Gates + tot ct1 x.Ready + tot ctCore x.Saved + tot ct1 x.Over
theorem ctle_Kernel (x : DKernel) : ctKernel x ≤ 2 * (1 + wtKernel x) := by
  have h0 := tctle_Gate x.Gates
  have h1 := tot_ct1 x.Ready
  have h2 := tctle_Core x.Saved
  have h3 := tot_ct1 x.Over
  unfold ctKernel
  simp only [wtKernel] at *
  omega
theorem tctle_Kernel (xs : List DKernel) : tot ctKernel xs ≤ 2 * (xs.length + tot wtKernel xs) := tot_ct_le ctle_Kernel xs
def mwKernel (x : DKernel) (k : Int) : DKernel := { Gates := mkL mkGate ctGate x.Gates k, Ready := mkL mkI ct1 x.Ready (k + (tot ctGate x.Gates : Nat)), Saved := mkL mkCore ctCore x.Saved ((k + (tot ctGate x.Gates : Nat)) + (tot ct1 x.Ready : Nat)), Over := mkL mkB ct1 x.Over (((k + (tot ctGate x.Gates : Nat)) + (tot ct1 x.Ready : Nat)) + (tot ctCore x.Saved : Nat)) }
def cwKernel (x : DKernel) : Nat := tot ctGate x.Gates + tot ct1 x.Ready + tot ctCore x.Saved + tot ct1 x.Over
theorem set_cKernel {xs : List DKernel} {n : Nat} {x : DKernel} : (xs.map cKernel).set n [.tree 3 (x.Gates.map cGate), .tree 1 (x.Ready.map cI), .tree 3 (x.Saved.map cCore), .tree 1 (x.Over.map cB)] = (xs.set n x).map cKernel := by rw [List.map_set]
theorem snoc_cKernel {xs : List DKernel} {x : DKernel} : xs.map cKernel ++ [[.tree 3 (x.Gates.map cGate), .tree 1 (x.Ready.map cI), .tree 3 (x.Saved.map cCore), .tree 1 (x.Over.map cB)]] = (xs ++ [x]).map cKernel := by simp
theorem solid_cKernel {xs : List DKernel} : solid (xs.map cKernel) = true := solid_map fun _ => rfl
def FT := (And.intro (And.intro (And.intro (And.intro @solid_cNode (And.intro @solid_cEntry @solid_cMonitor)) (And.intro (And.intro @solid_cProcess @solid_cProgram) (And.intro @solid_cGate @solid_cCore))) (And.intro (And.intro @solid_cImage (And.intro @solid_cKernel @flat_cEntry)) (And.intro (And.intro @snoc_cNode @snoc_cEntry) (And.intro @snoc_cMonitor @snoc_cProcess)))) (And.intro (And.intro (And.intro @snoc_cProgram (And.intro @snoc_cGate @snoc_cCore)) (And.intro (And.intro @snoc_cImage @snoc_cKernel) (And.intro @set_cNode @set_cEntry))) (And.intro (And.intro @set_cMonitor (And.intro @set_cProcess @set_cProgram)) (And.intro (And.intro @set_cGate @set_cCore) (And.intro @set_cImage @set_cKernel)))))
theorem sem_laws_szIntS (xs : List Int) (h : xs.length ≤ 140737488351232) (n : Int) (h1 : -1 ≤ n) (h2 : n ≤ 4611686018427387904) : S_laws_szIntS.sem [.tree 1 (xs.map cI), .int .i64 n] = some (.int .i64 (lft n xs.length), []) := by
  rw [sg_laws_szIntS, sem_go]
  simp +contextual (maxSteps := 10000000) (disch := omega) only [F_laws_szIntS, params, EG, EL, ↓reduceIte, Nat.reduceEqDiff, Nat.reduceAdd, Nat.reduceSub, Nat.reduceMul, Nat.reduceLeDiff, Nat.reduceLT, Int.reduceLT, Int.reduceLE, Int.reduceEq, Int.reduceToNat, reduceCtorEq, FB, FT, cx_laws_szIntS, wrapI]
  unfold lft
  split <;> rfl
theorem sem_laws_szCore (x : DCore) (g : gdCore x) (n : Int) (h1 : -1 ≤ n) (h2 : n ≤ 4611686018427387904) : S_laws_szCore.sem [.agg (cCore x), .int .i64 n] = some (.int .i64 (lft n (wtCore x)), []) := by
  obtain ⟨⟨g0, g0e⟩, g1, g2⟩ := (show (x.Regs.length ≤ 140737488351232 ∧ ∀ y ∈ x.Regs, i64 y) ∧ i64 x.Pc ∧ i64 x.Process from g)
  skip
  unfold wtCore
  have kW := lft_or n (x.Regs.length)
  rw [sg_laws_szCore, sem_go]
  rcases lft_or (n) (x.Regs.length) with ⟨e0, f0⟩ | ⟨e0, f0⟩
  · simp (maxSteps := 10000000) (disch := first | assumption | omega) only [F_laws_szCore, params, EG, EL, ↓reduceIte, Nat.reduceEqDiff, Nat.reduceAdd, Nat.reduceSub, Nat.reduceMul, Nat.reduceLeDiff, Nat.reduceLT, Int.reduceLT, Int.reduceLE, Int.reduceEq, Int.reduceToNat, reduceCtorEq, FB, FT, cx_laws_szCore, cl_laws_szIntS, sem_laws_szIntS, wrapI, neg1_lt, e0]
    first | done | (simp only [Option.some.injEq, Prod.mk.injEq, AV.int.injEq, AV.bool.injEq, AV.str.injEq, true_and, and_true]; omega)
  · have c0 : ¬ n - ((x.Regs.length : Nat) : Int) < 0 := by omega
    simp (maxSteps := 10000000) (disch := first | assumption | omega) only [F_laws_szCore, params, EG, EL, ↓reduceIte, Nat.reduceEqDiff, Nat.reduceAdd, Nat.reduceSub, Nat.reduceMul, Nat.reduceLeDiff, Nat.reduceLT, Int.reduceLT, Int.reduceLE, Int.reduceEq, Int.reduceToNat, reduceCtorEq, FB, FT, cx_laws_szCore, cl_laws_szIntS, sem_laws_szIntS, wrapI, neg1_lt, e0, c0]
    first | done | rfl | (simp only [Option.some.injEq, Prod.mk.injEq, AV.int.injEq, AV.bool.injEq, AV.str.injEq, true_and, and_true]; omega)
theorem loop_laws_toIntS (xs : List Int) (hl : xs.length ≤ 1048576) :
    loopV X_laws_toIntS 0 [0, 3, 4] [(1, [3])] B0_laws_toIntS ⟨[(0, .tree 1 (xs.map cI)), (3, .sl ⟨0, none, 0⟩ 1 0 xs.length), (4, .int .i64 0)], [some ⟨false, 0, 1, fillR cI [.int .i64 0] xs 0⟩]⟩ = some (.exit 0, ⟨[(3, .sl ⟨0, none, 0⟩ 1 0 xs.length)], [some ⟨false, 0, 1, xs.map cI⟩]⟩) := by
  refine loop_list xs (fun _ (_ : Unit) => True) (fun i _ => ⟨[(0, .tree 1 (xs.map cI)), (3, .sl ⟨0, none, 0⟩ 1 0 xs.length), (4, .int .i64 ((i : Nat) : Int))], [some ⟨false, 0, 1, fillR cI [.int .i64 0] xs i⟩]⟩) (fun _ _ => some (.exit 0, ⟨[(3, .sl ⟨0, none, 0⟩ 1 0 xs.length)], [some ⟨false, 0, 1, xs.map cI⟩]⟩)) ?_ ?_ () trivial
  · intro _ _
    rw [loopV_by B0_laws_toIntS.eq_1]
    simp only [EG, EL, ↓reduceIte, Nat.reduceEqDiff, Nat.reduceAdd, Nat.reduceSub, Nat.reduceMul, Nat.reduceLeDiff, Nat.reduceLT, Int.reduceLT, Int.reduceLE, Int.reduceEq, Int.reduceToNat, reduceCtorEq, int_lt_irrefl, fillR_end]
  · rintro i h x rest _ rfl rfl _ ih
    have hi : (i : Int) < (xs.length : Int) := by omega
    skip
    have hf := fillR_set (c := cI) (z := [.int .i64 0]) h rfl
    simp only [cI] at hf
    rw [loopV_by B0_laws_toIntS.eq_1]
    simp (maxSteps := 10000000) (disch := first | assumption | omega) only [EG, EL, ↓reduceIte, Nat.reduceEqDiff, Nat.reduceAdd, Nat.reduceSub, Nat.reduceMul, Nat.reduceLeDiff, Nat.reduceLT, Int.reduceLT, Int.reduceLE, Int.reduceEq, Int.reduceToNat, reduceCtorEq, FB, FT, hi, h, wrap_succ, getRow _ _ h, fillR_get h, fillR_length (Nat.le_of_lt h), cx_laws_toIntS]
    simp only [splice_eq, EG, EL, ↓reduceIte, Nat.reduceEqDiff, Nat.reduceAdd, Nat.reduceSub, Nat.reduceMul, Nat.reduceLeDiff, Nat.reduceLT, Int.reduceLT, Int.reduceLE, Int.reduceEq, Int.reduceToNat, reduceCtorEq, hf]
    exact ih () trivial
theorem sem_laws_toIntS (xs : List Int) (h : xs.length ≤ 1048576) : S_laws_toIntS.sem [.tree 1 (xs.map cI)] = some (.tree 1 (xs.map cI), []) := by
  rw [sg_laws_toIntS, sem_go]
  simp (maxSteps := 10000000) (disch := omega) only [F_laws_toIntS, params, EG, EL, ↓reduceIte, Nat.reduceEqDiff, Nat.reduceAdd, Nat.reduceSub, Nat.reduceMul, Nat.reduceLeDiff, Nat.reduceLT, Int.reduceLT, Int.reduceLE, Int.reduceEq, Int.reduceToNat, reduceCtorEq, FB, FT, cx_laws_toIntS, fillR_zero cI, loop_laws_toIntS xs h]
  rw [if_pos (by omega)]
theorem sem_laws_toCore (x : DCore) (h : wtCore x ≤ 1048576) : S_laws_toCore.sem [.agg (cCore x)] = some (.agg (cCore x), []) := by
  unfold wtCore at h
  rw [sg_laws_toCore, sem_go]
  simp (maxSteps := 10000000) (disch := omega) only [F_laws_toCore, params, EG, EL, ↓reduceIte, Nat.reduceEqDiff, Nat.reduceAdd, Nat.reduceSub, Nat.reduceMul, Nat.reduceLeDiff, Nat.reduceLT, Int.reduceLT, Int.reduceLE, Int.reduceEq, Int.reduceToNat, reduceCtorEq, FB, FT, cx_laws_toCore, cl_laws_toIntS, sem_laws_toIntS]
theorem loop_laws_eqIntS (xs : List Int) (hl : xs.length ≤ 1073741824) :
    loopV X_laws_eqIntS 0 [0, 1, 5] [(1, []), (0, [4])] B0_laws_eqIntS ⟨[(0, .tree 1 (xs.map cI)), (1, .tree 1 (xs.map cI)), (5, .int .i64 0)], []⟩ = some (.exit 0, ⟨[], []⟩) := by
  refine loop_list xs (fun _ (_ : Unit) => True) (fun i _ => ⟨[(0, .tree 1 (xs.map cI)), (1, .tree 1 (xs.map cI)), (5, .int .i64 ((i : Nat) : Int))], []⟩) (fun _ _ => some (.exit 0, ⟨[], []⟩)) ?_ ?_ () trivial
  · intro _ _
    rw [loopV_by B0_laws_eqIntS.eq_1]
    simp only [EG, EL, ↓reduceIte, Nat.reduceEqDiff, Nat.reduceAdd, Nat.reduceSub, Nat.reduceMul, Nat.reduceLeDiff, Nat.reduceLT, Int.reduceLT, Int.reduceLE, Int.reduceEq, Int.reduceToNat, reduceCtorEq, int_lt_irrefl]
  · rintro i h x rest _ rfl rfl _ ih
    have hi : (i : Int) < (xs.length : Int) := by omega
    skip
    rw [loopV_by B0_laws_eqIntS.eq_1]
    simp (maxSteps := 10000000) (disch := first | assumption | omega) only [EG, EL, ↓reduceIte, Nat.reduceEqDiff, Nat.reduceAdd, Nat.reduceSub, Nat.reduceMul, Nat.reduceLeDiff, Nat.reduceLT, Int.reduceLT, Int.reduceLE, Int.reduceEq, Int.reduceToNat, reduceCtorEq, FB, FT, hi, wrap_succ, getRow _ _ h, cx_laws_eqIntS]
    exact ih () trivial
theorem sem_laws_eqIntS (xs : List Int) (h : xs.length ≤ 1073741824) : S_laws_eqIntS.sem [.tree 1 (xs.map cI), .tree 1 (xs.map cI)] = some (.bool true, []) := by
  rw [sg_laws_eqIntS, sem_go]
  simp (maxSteps := 10000000) (disch := omega) only [F_laws_eqIntS, params, EG, EL, ↓reduceIte, Nat.reduceEqDiff, Nat.reduceAdd, Nat.reduceSub, Nat.reduceMul, Nat.reduceLeDiff, Nat.reduceLT, Int.reduceLT, Int.reduceLE, Int.reduceEq, Int.reduceToNat, reduceCtorEq, FB, FT, cx_laws_eqIntS, loop_laws_eqIntS xs h]
theorem sem_laws_eqCore (x : DCore) (h : wtCore x ≤ 1073741824) : S_laws_eqCore.sem [.agg (cCore x), .agg (cCore x)] = some (.bool true, []) := by
  unfold wtCore at h
  rw [sg_laws_eqCore, sem_go]
  simp (maxSteps := 10000000) (disch := omega) only [F_laws_eqCore, params, EG, EL, ↓reduceIte, Nat.reduceEqDiff, Nat.reduceAdd, Nat.reduceSub, Nat.reduceMul, Nat.reduceLeDiff, Nat.reduceLT, Int.reduceLT, Int.reduceLE, Int.reduceEq, Int.reduceToNat, reduceCtorEq, FB, FT, cx_laws_eqCore, cl_laws_eqIntS, sem_laws_eqIntS]
theorem sem_laws_markIntS (xs : List Int) (k : Int) (h1 : 1 ≤ k) (h2 : k + (tot ct1 xs : Nat) ≤ 4611686018427387000) : S_laws_markIntS.sem [.tree 1 (xs.map cI), .int .i64 k] = some (.int .i64 (k + (tot ct1 xs : Nat)), (mkL mkI ct1 xs k).map cI) := by
  have hlen : xs.length ≤ tot ct1 xs := len_ct1
  have loop : loopV X_laws_markIntS 1 [0, 1, 5] [(1, [1])] B0_laws_markIntS ⟨[(0, .sl ⟨0, none, 0⟩ 1 0 xs.length), (1, .int .i64 k), (5, .int .i64 0)], [some ⟨false, 0, 1, xs.map cI⟩]⟩ = some (.exit 0, ⟨[(1, .int .i64 (k + (tot ct1 xs : Nat)))], [some ⟨false, 0, 1, (mkL mkI ct1 xs k).map cI⟩]⟩) := by
    refine loop_list xs (fun i (a : List Int × Int) => a.1.length = i ∧ 1 ≤ a.2 ∧ a.2 + (tot ct1 (xs.drop i) : Nat) ≤ 4611686018427387000) (fun i a => ⟨[(0, .sl ⟨0, none, 0⟩ 1 0 xs.length), (1, .int .i64 a.2), (5, .int .i64 ((i : Nat) : Int))], [some ⟨false, 0, 1, (a.1 ++ xs.drop i).map cI⟩]⟩) (fun rest a => some (.exit 0, ⟨[(1, .int .i64 (a.2 + (tot ct1 rest : Nat)))], [some ⟨false, 0, 1, (a.1 ++ mkL mkI ct1 rest a.2).map cI⟩]⟩)) ?_ ?_ ([], k) ⟨rfl, h1, h2⟩
    · rintro a ⟨hy, a1, a2⟩
      rw [loopV_by B0_laws_markIntS.eq_1]
      simp only [EG, EL, ↓reduceIte, Nat.reduceEqDiff, Nat.reduceAdd, Nat.reduceSub, Nat.reduceMul, Nat.reduceLeDiff, Nat.reduceLT, Int.reduceLT, Int.reduceLE, Int.reduceEq, Int.reduceToNat, reduceCtorEq, int_lt_irrefl, List.drop_length, tot, mkL, Int.natCast_zero, Int.add_zero]
    · rintro i h x rest a rfl rfl ⟨hy, a1, a2⟩ ih
      have hi : (i : Int) < (xs.length : Int) := by omega
      have hd : xs.drop i = xs[i] :: xs.drop (i + 1) := List.drop_eq_getElem_cons h
      have ht : tot ct1 (xs.drop i) = ct1 xs[i] + tot ct1 (xs.drop (i + 1)) := by rw [hd]; rfl
      have hc : ct1 xs[i] = 1 := rfl
      have hlm : i < ((a.1 ++ xs.drop i).map cI).length := by rw [mid_len hy h]; exact h
      have hll : i < a.1.length + (xs.drop i).length := by rw [List.length_drop]; omega
      have hg := mid_get (c := cI) hy h
      have hf := mid_set (c := cI) hy h (x := a.2) rfl
      have hk : (a.2 + 1) = a.2 + ((ct1 xs[i] : Nat) : Int) := by rw [hc]; omega
      simp only [cI] at hf
      rw [loopV_by B0_laws_markIntS.eq_1]
      simp (maxSteps := 10000000) (disch := first | assumption | omega) only [EG, EL, ↓reduceIte, Nat.reduceEqDiff, Nat.reduceAdd, Nat.reduceSub, Nat.reduceMul, Nat.reduceLeDiff, Nat.reduceLT, Int.reduceLT, Int.reduceLE, Int.reduceEq, Int.reduceToNat, reduceCtorEq, FB, FT, hi, h, hg, hlm, hll, cx_laws_markIntS, wrapI, splice_eq, set_getD, set_set, hf]
      rw [show ((i : Nat) : Int) + 1 = ((i + 1 : Nat) : Int) by omega]
      have hih := ih (a.1 ++ [a.2], (a.2 + 1)) ⟨by simp [hy], by show 1 ≤ (a.2 + 1); omega, by show (a.2 + 1) + _ ≤ _; omega⟩
      simp only [eq_self] at hih
      rw [hih]
      simp only [hk, tot, mkL, List.append_assoc, List.singleton_append]
      rw [show a.2 + ((ct1 xs[i] : Nat) : Int) + ((tot ct1 (xs.drop (i + 1)) : Nat) : Int) = a.2 + ((ct1 xs[i] + tot ct1 (xs.drop (i + 1)) : Nat) : Int) by omega]
      try rfl
  rw [sg_laws_markIntS, sem_goM]
  simp (maxSteps := 10000000) (disch := first | assumption | omega) only [F_laws_markIntS, params, EG, EL, ↓reduceIte, Nat.reduceEqDiff, Nat.reduceAdd, Nat.reduceSub, Nat.reduceMul, Nat.reduceLeDiff, Nat.reduceLT, Int.reduceLT, Int.reduceLE, Int.reduceEq, Int.reduceToNat, reduceCtorEq, FB, FT, cx_laws_markIntS, loop]
theorem sem_laws_heldIntS (xs : List Int) (k : Int) (h1 : 1 ≤ k) (h2 : k + (tot ct1 xs : Nat) ≤ 4611686018427387000) : S_laws_heldIntS.sem [.tree 1 ((mkL mkI ct1 xs k).map cI), .int .i64 k] = some (.int .i64 (k + (tot ct1 xs : Nat)), []) := by
  have hlen : xs.length ≤ tot ct1 xs := len_ct1
  have hML : (mkL mkI ct1 xs k).length = xs.length := mkL_length
  have loop : loopV X_laws_heldIntS 0 [0, 1, 5] [(1, [1]), (0, [4])] B0_laws_heldIntS ⟨[(0, .tree 1 ((mkL mkI ct1 xs k).map cI)), (1, .int .i64 k), (5, .int .i64 0)], []⟩ = some (Ex.exit 0, (⟨[(1, .int .i64 (k + (tot ct1 xs : Nat)))], []⟩ : St)) := by
    refine loop_list xs (fun i (m : Int) => m = k + (tot ct1 (xs.take i) : Nat)) (fun i m => ⟨[(0, .tree 1 ((mkL mkI ct1 xs k).map cI)), (1, .int .i64 m), (5, .int .i64 ((i : Nat) : Int))], []⟩) (fun rest a => some (Ex.exit 0, (⟨[(1, .int .i64 (k + (tot ct1 xs : Nat)))], []⟩ : St))) ?_ ?_ k (by simp [tot])
    · rintro m rfl
      rw [loopV_by B0_laws_heldIntS.eq_1]
      simp only [EG, EL, ↓reduceIte, Nat.reduceEqDiff, Nat.reduceAdd, Nat.reduceSub, Nat.reduceMul, Nat.reduceLeDiff, Nat.reduceLT, Int.reduceLT, Int.reduceLE, Int.reduceEq, Int.reduceToNat, reduceCtorEq, int_lt_irrefl, hML, tot_take_end]
    · rintro i h x rest m rfl rfl hm ih
      have hi : (i : Int) < (xs.length : Int) := by omega
      have ht := tot_take_le (f := ct1) h
      have hs := tot_take1 (f := ct1) h
      have hc : ct1 xs[i] = 1 := rfl
      have hg : ((mkL mkI ct1 xs k).map cI).getD i [] = cI (mkI xs[i] m) := by
        have h' : i < (mkL mkI ct1 xs k).length := by omega
        rw [getRow _ _ h', mkL_get h, hm]
      simp only [cI, mkI] at hg
      rw [loopV_by B0_laws_heldIntS.eq_1]
      simp (maxSteps := 10000000) (disch := first | assumption | omega) only [EG, EL, ↓reduceIte, Nat.reduceEqDiff, Nat.reduceAdd, Nat.reduceSub, Nat.reduceMul, Nat.reduceLeDiff, Nat.reduceLT, Int.reduceLT, Int.reduceLE, Int.reduceEq, Int.reduceToNat, reduceCtorEq, FB, FT, hi, hML, hg, cx_laws_heldIntS, wrapI]
      repeat rw [if_neg (by omega)]
      rw [show ((i : Nat) : Int) + 1 = ((i + 1 : Nat) : Int) by omega]
      exact ih _ (by omega)
  rw [sg_laws_heldIntS, sem_go]
  simp (maxSteps := 10000000) (disch := first | assumption | omega) only [F_laws_heldIntS, params, EG, EL, ↓reduceIte, Nat.reduceEqDiff, Nat.reduceAdd, Nat.reduceSub, Nat.reduceMul, Nat.reduceLeDiff, Nat.reduceLT, Int.reduceLT, Int.reduceLE, Int.reduceEq, Int.reduceToNat, reduceCtorEq, FB, FT, cx_laws_heldIntS, loop]
theorem sem_laws_heldCore (x : DCore) (k : Int) (h1 : 1 ≤ k) (h2 : k + (cwCore x : Nat) ≤ 4611686018427387000) : S_laws_heldCore.sem [.agg [.tree 1 ((mkL mkI ct1 x.Regs k).map cI), .int .i64 x.Pc, .int .i64 x.Process], .int .i64 k] = some (.int .i64 (k + (tot ct1 x.Regs : Nat)), []) := by
  show S_laws_heldCore.sem [.agg (cCore (mwCore x k)), .int .i64 k] = some (.int .i64 (k + (tot ct1 x.Regs : Nat)), [])
  have hc : cwCore x = tot ct1 x.Regs := rfl
  rw [sg_laws_heldCore, sem_go]
  simp (maxSteps := 10000000) (disch := first | assumption | omega) only [F_laws_heldCore, params, EG, EL, ↓reduceIte, Nat.reduceEqDiff, Nat.reduceAdd, Nat.reduceSub, Nat.reduceMul, Nat.reduceLeDiff, Nat.reduceLT, Int.reduceLT, Int.reduceLE, Int.reduceEq, Int.reduceToNat, reduceCtorEq, FB, FT, cx_laws_heldCore, cl_laws_heldIntS, sem_laws_heldIntS, mwCore]
  repeat rw [if_neg (by omega)]
/-! gates -/
/-- In line, each in 0 .. 3 and none of those seen. -/
def freshB (seen : List Int) : List Int → Bool
  | [] => true
  | x :: xs => decide (0 ≤ x ∧ x ≤ 3) && (decide (x ∉ seen) && freshB (seen ++ [x]) xs)
def qfreshB (seen : List Int) : List Int → Bool
  | [] => true
  | x :: xs => if x = -1 then qfreshB (seen ++ [x]) xs else decide (0 ≤ x ∧ x ≤ 3) && (decide (x ∉ seen) && qfreshB (seen ++ [x]) xs)
def somebody (xs : List Int) : List Int := xs.filter (fun x => decide (x ≠ -1))
theorem freshB_app : ∀ (xs ys seen : List Int), freshB seen (xs ++ ys) = (freshB seen xs && freshB (seen ++ xs) ys)
  | [], ys, seen => by simp [freshB]
  | x :: xs, ys, seen => by
    simp only [List.cons_append, freshB, freshB_app xs ys (seen ++ [x]), List.append_assoc, List.singleton_append, List.nil_append, Bool.and_assoc]
theorem freshB_mem : ∀ (xs seen : List Int), freshB seen xs = true → ∀ x ∈ xs, 0 ≤ x ∧ x ≤ 3
  | [], _, _, x, hx => by simp at hx
  | y :: ys, seen, h, x, hx => by
    unfold freshB at h
    simp only [Bool.and_eq_true, decide_eq_true_eq] at h
    rcases List.mem_cons.1 hx with rfl | hx
    · exact h.1
    · exact freshB_mem ys _ h.2.2 x hx
theorem qfreshB_eq : ∀ (xs seen : List Int), qfreshB seen xs = freshB (somebody seen) (somebody xs)
  | [], seen => rfl
  | x :: xs, seen => by
    unfold qfreshB
    rw [qfreshB_eq xs (seen ++ [x])]
    by_cases h : x = -1
    · subst h
      simp [somebody]
    · have hm : x ∈ somebody seen ↔ x ∈ seen := by simp [somebody, h]
      rw [if_neg h]
      have e : somebody (x :: xs) = x :: somebody xs := by simp [somebody, h]
      rw [e]
      have e2 : somebody (seen ++ [x]) = somebody seen ++ [x] := by simp [somebody, h]
      rw [e2]
      conv => rhs; unfold freshB
      simp only [hm]
/-- A right gate. -/
def gateOk (owner : Int) (waits queues : List Int) : Bool :=
  decide (queues.length ≤ 2) && (freshB [] ((if owner = -1 then [] else [owner]) ++ waits ++ somebody queues) && decide (owner ≠ -1 ∨ waits.length = 0))
theorem gateOk_low {owner : Int} {waits queues : List Int} (h : ¬ (-1 ≤ owner ∧ owner ≤ 3)) : gateOk owner waits queues = false := by
  unfold gateOk
  rw [if_neg (by omega)]
  simp only [List.cons_append, List.nil_append]
  unfold freshB
  have : ¬ (0 ≤ owner ∧ owner ≤ 3) := by omega
  simp [this]
def inGate (owner : Int) (waits queues : List Int) : List Int := (if owner = -1 then [] else [owner]) ++ waits ++ somebody queues
theorem inGate_len (owner : Int) (waits queues : List Int) : (inGate owner waits queues).length ≤ 1 + waits.length + queues.length := by
  unfold inGate somebody
  have := List.length_filter_le (fun x : Int => decide (x ≠ -1)) queues
  rw [List.length_append, List.length_append]
  split <;> simp only [List.length_nil, List.length_cons] <;> omega
/-- How the reference tells a right gate. -/
theorem gateOk_spec (owner : Int) (waits queues : List Int) : gateOk owner waits queues = (decide (-1 ≤ owner ∧ owner ≤ 3) && (decide (queues.length ≤ 2) && (!(decide (owner < 0) && decide (0 < waits.length)) && (freshB (if 0 ≤ owner then [owner] else []) waits && qfreshB ((if 0 ≤ owner then [owner] else []) ++ waits) queues)))) := by
  by_cases h1 : -1 ≤ owner ∧ owner ≤ 3
  · by_cases h3 : owner < 0
    · have ho : owner = -1 := by omega
      subst ho
      by_cases h4 : waits = []
      · subst h4
        rw [qfreshB_eq]
        simp [gateOk, freshB, somebody]
      · have : ¬ waits.length = 0 := by simpa using h4
        simp [gateOk, h4, List.length_pos_iff]
    · have ho : ¬ owner = -1 := by omega
      have ho2 : 0 ≤ owner ∧ owner ≤ 3 := by omega
      rw [if_pos ho2.1, qfreshB_eq]
      unfold gateOk
      rw [if_neg ho, freshB_app ([owner] ++ waits), freshB_app [owner]]
      have e1 : freshB [] [owner] = true := by simp [freshB, ho2]
      rw [e1]
      simp only [h1, h3, and_self, decide_true, decide_false, Bool.true_and, List.nil_append, ho, not_false_eq_true, true_or, ne_eq, Bool.and_true, Bool.false_and, Bool.not_false]
      cases hf : freshB [owner] waits with
      | false => simp
      | true =>
        have hm := freshB_mem _ _ hf
        have e2 : somebody ([owner] ++ waits) = [owner] ++ waits := by
          unfold somebody
          rw [List.filter_eq_self]
          intro x hx
          rcases List.mem_append.1 hx with hx | hx
          · have := List.mem_singleton.1 hx
            exact decide_eq_true (by omega)
          · have := hm x hx
            exact decide_eq_true (by omega)
        rw [e2]
  · rw [gateOk_low h1]
    simp [h1]
theorem map_cI_snoc {xs : List Int} {y : Int} : xs.map cI ++ [[.int .i64 y]] = (xs ++ [y]).map cI := by simp
theorem map_cI_app {xs ys : List Int} : xs.map cI ++ ys.map cI = (xs ++ ys).map cI := by simp
theorem map_cI_one {y : Int} : [[AV.int .i64 y]] = [y].map cI := rfl
/-- A loop that goes on, or gives false. -/
def okR (b : Bool) (e : Nat) (s : St) (t : Nat) : Option (Ex × St) := if b = true then some (.exit e, s) else some (.ret, ⟨[(t, .bool false)], []⟩)
theorem okR_true {e t : Nat} {s : St} : okR true e s t = some (.exit e, s) := rfl
theorem okR_false {e t : Nat} {s : St} : okR false e s t = some (.ret, ⟨[(t, .bool false)], []⟩) := rfl
theorem goE_okR {ctx : Ctx} {base : Nat} {b : Bool} {e t : Nat} {s : St} {K : List Fr} : goE ctx base (okR b e s t) K = if b = true then unw ctx base K (.exit e) s else unw ctx base K .ret ⟨[(t, .bool false)], []⟩ := by
  unfold okR; split <;> rfl
theorem mem_fIx {xs : List Int} {x : Int} : ∀ {i : Nat}, (0 ≤ fIx (fun y => decide (x = y)) xs i) = (x ∈ xs) := by
  induction xs with
  | nil => intro i; simp [fIx]
  | cons y ys ih =>
    intro i
    by_cases h : x = y
    · subst h; simp [fIx]
    · simp only [fIx, h, decide_false, Bool.false_eq_true, if_false, ih, List.mem_cons, false_or]
theorem sem_spec_l01In (a lo hi : Int) : S_spec_l01In.sem [.int .i64 a, .int .i64 lo, .int .i64 hi] = some (.bool (decide (lo ≤ a ∧ a ≤ hi)), []) := by
  rw [sg_spec_l01In, sem_go]
  simp (maxSteps := 10000000) (disch := first | assumption | omega) only [F_spec_l01In, params, EG, EL, ↓reduceIte, Nat.reduceEqDiff, Nat.reduceAdd, Nat.reduceSub, Nat.reduceMul, Nat.reduceLeDiff, Nat.reduceLT, Int.reduceLT, Int.reduceLE, Int.reduceEq, Int.reduceToNat, reduceCtorEq, FB, cx_spec_l01In]
  by_cases h1 : lo ≤ a <;> by_cases h2 : a ≤ hi <;> simp [h1, h2]
theorem sem_impl_within (a lo hi : Int) : S_impl_within.sem [.int .i64 a, .int .i64 lo, .int .i64 hi] = some (.bool (decide (lo ≤ a ∧ a ≤ hi)), []) := by
  rw [sg_impl_within, sem_go]
  simp (maxSteps := 10000000) (disch := first | assumption | omega) only [F_impl_within, params, EG, EL, ↓reduceIte, Nat.reduceEqDiff, Nat.reduceAdd, Nat.reduceSub, Nat.reduceMul, Nat.reduceLeDiff, Nat.reduceLT, Int.reduceLT, Int.reduceLE, Int.reduceEq, Int.reduceToNat, reduceCtorEq, FB, cx_impl_within]
  by_cases h1 : lo ≤ a <;> by_cases h2 : a ≤ hi <;> simp [h1, h2]
theorem sem_spec_l15Copy (x : DCore) (h : x.Regs.length ≤ 1048576) : S_spec_l15Copy.sem [.agg (cCore x)] = some (.agg (cCore x), []) := by
  have h1 : x.Regs.length * 8 ≤ 70368744177664 := by omega
  rw [sg_spec_l15Copy, sem_go]
  simp (maxSteps := 10000000) (disch := first | assumption | omega) only [F_spec_l15Copy, params, EG, EL, ↓reduceIte, Nat.reduceEqDiff, Nat.reduceAdd, Nat.reduceSub, Nat.reduceMul, Nat.reduceLeDiff, Nat.reduceLT, Int.reduceLT, Int.reduceLE, Int.reduceEq, Int.reduceToNat, reduceCtorEq, FB, ED, cx_spec_l15Copy, h1]
theorem sem_impl_copyCore (x : DCore) (h : x.Regs.length ≤ 1048576) : S_impl_copyCore.sem [.agg (cCore x)] = some (.agg (cCore x), []) := by
  have h1 : x.Regs.length * 8 ≤ 70368744177664 := by omega
  rw [sg_impl_copyCore, sem_go]
  simp (maxSteps := 10000000) (disch := first | assumption | omega) only [F_impl_copyCore, params, EG, EL, ↓reduceIte, Nat.reduceEqDiff, Nat.reduceAdd, Nat.reduceSub, Nat.reduceMul, Nat.reduceLeDiff, Nat.reduceLT, Int.reduceLT, Int.reduceLE, Int.reduceEq, Int.reduceToNat, reduceCtorEq, FB, ED, cx_impl_copyCore, h1]
theorem fIx_any {α : Type} {p : α → Bool} : ∀ {xs : List α} {i : Nat}, (0 ≤ fIx p xs i) = (xs.any p = true)
  | [], i => by simp [fIx]
  | x :: xs, i => by
    by_cases h : p x = true
    · simp only [fIx, h, if_true, List.any_cons, Bool.true_or]; simp
    · simp only [fIx, if_neg h, List.any_cons, Bool.eq_false_iff.2 h, Bool.false_or]
      exact fIx_any
def gateNew (n : Int) : DGate := ⟨-1, [], if 0 < n then (if 1 < n then [-1, -1] else [-1]) else []⟩
theorem wrap_one : IntKind.wrap .i64 (0 + 1) = 1 := by decide
theorem wrap_two : IntKind.wrap .i64 (1 + 1) = 2 := by decide
theorem min2_0 {n : Int} : (0 < (if 2 < n then 2 else n)) = (0 < n) := by split <;> simp <;> omega
theorem min2_1 {n : Int} : (1 < (if 2 < n then 2 else n)) = (1 < n) := by split <;> simp <;> omega
theorem min2_2 {n : Int} : (2 < (if 2 < n then 2 else n)) = False := by split <;> simp <;> omega
def procCore (x : DImage) (i : Nat) : DCore := ⟨List.replicate 8 0, if h : i < x.Starts.length then x.Starts[i] else 0, i⟩
def coresF (x : DImage) : List DProcess → Nat → List DCore
  | [], _ => []
  | _ :: r, i => procCore x i :: coresF x r (i + 1)
def readyF : List DProcess → Nat → List Int
  | [], _ => []
  | _ :: r, i => (i : Int) :: readyF r (i + 1)
def overF : List DProcess → List Bool
  | [] => []
  | _ :: r => false :: overF r
def monG (m : DMonitor) : DGate := gateNew m.Queues.length
def kernelNew (p : DProgram) (x : DImage) : DKernel := ⟨p.Monitors.map monG, readyF p.Processes 0, coresF x p.Processes 0, overF p.Processes⟩
theorem gateNew_len {n : Int} : (gateNew n).Waits.length + (gateNew n).Queues.length ≤ 2 := by
  unfold gateNew; split <;> (try split) <;> simp
theorem tot_monG : ∀ {ms : List DMonitor}, tot wtGate (ms.map monG) ≤ 2 * ms.length
  | [] => Nat.le_refl _
  | m :: ms => by
    have := @tot_monG ms
    have h := @gateNew_len (m.Queues.length : Int)
    simp only [List.map_cons, tot, List.length_cons, monG, wtGate] at *
    omega
theorem coresF_tot {x : DImage} : ∀ {ps : List DProcess} {i : Nat}, tot wtCore (coresF x ps i) = 8 * ps.length ∧ (coresF x ps i).length = ps.length ∧ (readyF ps i).length = ps.length ∧ (overF ps).length = ps.length
  | [], _ => ⟨rfl, rfl, rfl, rfl⟩
  | p :: ps, i => by
    obtain ⟨a, b, c, d⟩ := @coresF_tot x ps (i + 1)
    simp only [coresF, readyF, overF, tot, List.length_cons, wtCore, procCore, List.length_replicate] at *
    omega
def insOk (op a b c : Int) : Bool := decide ((1 ≤ op ∧ op ≤ 10) ∧ (0 ≤ a ∧ a ≤ 7) ∧ (0 ≤ b ∧ b ≤ 7) ∧ (0 ≤ c ∧ c ≤ 4194303) ∧ (op = 4 ∨ b = 0) ∧ (op ≠ 1 ∨ c ≤ 1000000) ∧ (op ≠ 4 ∨ (1 ≤ c ∧ c ≤ 9)) ∧ ((op ≠ 5 ∧ op ≠ 6) ∨ c = 0) ∧ (op ≠ 8 ∨ a = 0) ∧ (op ≠ 10 ∨ 1 ≤ a))
theorem insOk_no {op a b c : Int} (h : ¬ ((1 ≤ op ∧ op ≤ 10) ∧ (0 ≤ a ∧ a ≤ 7) ∧ (0 ≤ b ∧ b ≤ 7) ∧ (0 ≤ c ∧ c ≤ 4194303) ∧ (op = 4 ∨ b = 0))) : insOk op a b c = false := by
  unfold insOk; apply decide_eq_false; omega
theorem insOk_t {op a b c : Int} (h : (1 ≤ op ∧ op ≤ 10) ∧ (0 ≤ a ∧ a ≤ 7) ∧ (0 ≤ b ∧ b ≤ 7) ∧ (0 ≤ c ∧ c ≤ 4194303) ∧ (op = 4 ∨ b = 0) ∧ (op ≠ 1 ∨ c ≤ 1000000) ∧ (op ≠ 4 ∨ (1 ≤ c ∧ c ≤ 9)) ∧ ((op ≠ 5 ∧ op ≠ 6) ∨ c = 0) ∧ (op ≠ 8 ∨ a = 0) ∧ (op ≠ 10 ∨ 1 ≤ a)) : some (AV.bool true, ([] : List (List AV))) = some (.bool (insOk op a b c), []) := by
  unfold insOk; rw [decide_eq_true h]
theorem insOk_f {op a b c : Int} (h : ¬ ((1 ≤ op ∧ op ≤ 10) ∧ (0 ≤ a ∧ a ≤ 7) ∧ (0 ≤ b ∧ b ≤ 7) ∧ (0 ≤ c ∧ c ≤ 4194303) ∧ (op = 4 ∨ b = 0) ∧ (op ≠ 1 ∨ c ≤ 1000000) ∧ (op ≠ 4 ∨ (1 ≤ c ∧ c ≤ 9)) ∧ ((op ≠ 5 ∧ op ≠ 6) ∨ c = 0) ∧ (op ≠ 8 ∨ a = 0) ∧ (op ≠ 10 ∨ 1 ≤ a))) : some (AV.bool false, ([] : List (List AV))) = some (.bool (insOk op a b c), []) := by
  unfold insOk; rw [decide_eq_false h]
theorem insOk_d {op a b c : Int} {p : Prop} [Decidable p] (h : p ↔ ((1 ≤ op ∧ op ≤ 10) ∧ (0 ≤ a ∧ a ≤ 7) ∧ (0 ≤ b ∧ b ≤ 7) ∧ (0 ≤ c ∧ c ≤ 4194303) ∧ (op = 4 ∨ b = 0) ∧ (op ≠ 1 ∨ c ≤ 1000000) ∧ (op ≠ 4 ∨ (1 ≤ c ∧ c ≤ 9)) ∧ ((op ≠ 5 ∧ op ≠ 6) ∨ c = 0) ∧ (op ≠ 8 ∨ a = 0) ∧ (op ≠ 10 ∨ 1 ≤ a))) : some (AV.bool (decide p), ([] : List (List AV))) = some (.bool (insOk op a b c), []) := by
  unfold insOk; rw [decide_eq_decide.2 h]
theorem sem_spec_InsOk (op a b c : Int) : S_spec_InsOk.sem [.agg [.int .i64 op, .int .i64 a, .int .i64 b, .int .i64 c]] = some (.bool (insOk op a b c), []) := by
  rw [sg_spec_InsOk, sem_go]
  by_cases h1 : 1 ≤ op ∧ op ≤ 10
  · by_cases h2 : 0 ≤ a ∧ a ≤ 7
    · by_cases h3 : 0 ≤ b ∧ b ≤ 7
      · by_cases h4 : 0 ≤ c ∧ c ≤ 4194303
        · by_cases h5 : b = 0
          · subst h5
            have hb : (0 : Int) ≤ 0 ∧ (0 : Int) ≤ 7 := by omega
            have : op = 1 ∨ op = 2 ∨ op = 3 ∨ op = 4 ∨ op = 5 ∨ op = 6 ∨ op = 7 ∨ op = 8 ∨ op = 9 ∨ op = 10 := by omega
            rcases this with rfl | rfl | rfl | rfl | rfl | rfl | rfl | rfl | rfl | rfl
            all_goals simp (maxSteps := 10000000) (disch := first | assumption | omega) only [F_spec_InsOk, params, EG, EL, ↓reduceIte, Nat.reduceEqDiff, Nat.reduceAdd, Nat.reduceSub, Nat.reduceMul, Nat.reduceLeDiff, Nat.reduceLT, Int.reduceLT, Int.reduceLE, Int.reduceEq, Int.reduceToNat, reduceCtorEq, FB, ED, cx_spec_InsOk, cl_spec_l01In, sem_spec_l01In,  h1, h2, hb, h4, decide_true, decide_false, Bool.not_true, Bool.not_false]
            all_goals first | exact insOk_t (by omega) | exact insOk_d (by omega) | (split <;> first | exact insOk_t (by omega) | exact insOk_f (by omega)) | (by_cases h9 : 1 ≤ a ∧ a ≤ 7 <;> simp only [h9, if_true, if_false, decide_true, decide_false] <;> first | exact insOk_t (by omega) | exact insOk_f (by omega))
          · by_cases h6 : op = 4
            · subst h6
              simp (maxSteps := 10000000) (disch := first | assumption | omega) only [F_spec_InsOk, params, EG, EL, ↓reduceIte, Nat.reduceEqDiff, Nat.reduceAdd, Nat.reduceSub, Nat.reduceMul, Nat.reduceLeDiff, Nat.reduceLT, Int.reduceLT, Int.reduceLE, Int.reduceEq, Int.reduceToNat, reduceCtorEq, FB, ED, cx_spec_InsOk, cl_spec_l01In, sem_spec_l01In,  h1, h2, h3, h4, h5, decide_true, decide_false, Bool.not_true, Bool.not_false]
              all_goals first | exact insOk_t (by omega) | exact insOk_d (by omega) | (split <;> first | exact insOk_t (by omega) | exact insOk_f (by omega)) | (by_cases h9 : 1 ≤ a ∧ a ≤ 7 <;> simp only [h9, if_true, if_false, decide_true, decide_false] <;> first | exact insOk_t (by omega) | exact insOk_f (by omega))
            · by_cases h7 : op = 10
              · subst h7
                rw [insOk_no (by omega)]
                simp (maxSteps := 10000000) (disch := first | assumption | omega) only [F_spec_InsOk, params, EG, EL, ↓reduceIte, Nat.reduceEqDiff, Nat.reduceAdd, Nat.reduceSub, Nat.reduceMul, Nat.reduceLeDiff, Nat.reduceLT, Int.reduceLT, Int.reduceLE, Int.reduceEq, Int.reduceToNat, reduceCtorEq, FB, ED, cx_spec_InsOk, cl_spec_l01In, sem_spec_l01In,  h1, h2, h3, h4, h5, decide_true, decide_false, Bool.not_true, Bool.not_false]
                try simp
              · rw [insOk_no (by omega)]
                simp (maxSteps := 10000000) (disch := first | assumption | omega) only [F_spec_InsOk, params, EG, EL, ↓reduceIte, Nat.reduceEqDiff, Nat.reduceAdd, Nat.reduceSub, Nat.reduceMul, Nat.reduceLeDiff, Nat.reduceLT, Int.reduceLT, Int.reduceLE, Int.reduceEq, Int.reduceToNat, reduceCtorEq, FB, ED, cx_spec_InsOk, cl_spec_l01In, sem_spec_l01In,  h1, h2, h3, h4, h5, h6, h7, decide_true, decide_false, Bool.not_true, Bool.not_false]
        · rw [insOk_no (by omega)]
          simp (maxSteps := 10000000) (disch := first | assumption | omega) only [F_spec_InsOk, params, EG, EL, ↓reduceIte, Nat.reduceEqDiff, Nat.reduceAdd, Nat.reduceSub, Nat.reduceMul, Nat.reduceLeDiff, Nat.reduceLT, Int.reduceLT, Int.reduceLE, Int.reduceEq, Int.reduceToNat, reduceCtorEq, FB, ED, cx_spec_InsOk, cl_spec_l01In, sem_spec_l01In,  h1, h2, h3, h4, decide_true, decide_false, Bool.not_true, Bool.not_false]
      · rw [insOk_no (by omega)]
        simp (maxSteps := 10000000) (disch := first | assumption | omega) only [F_spec_InsOk, params, EG, EL, ↓reduceIte, Nat.reduceEqDiff, Nat.reduceAdd, Nat.reduceSub, Nat.reduceMul, Nat.reduceLeDiff, Nat.reduceLT, Int.reduceLT, Int.reduceLE, Int.reduceEq, Int.reduceToNat, reduceCtorEq, FB, ED, cx_spec_InsOk, cl_spec_l01In, sem_spec_l01In,  h1, h2, h3, decide_true, decide_false, Bool.not_true, Bool.not_false]
    · rw [insOk_no (by omega)]
      simp (maxSteps := 10000000) (disch := first | assumption | omega) only [F_spec_InsOk, params, EG, EL, ↓reduceIte, Nat.reduceEqDiff, Nat.reduceAdd, Nat.reduceSub, Nat.reduceMul, Nat.reduceLeDiff, Nat.reduceLT, Int.reduceLT, Int.reduceLE, Int.reduceEq, Int.reduceToNat, reduceCtorEq, FB, ED, cx_spec_InsOk, cl_spec_l01In, sem_spec_l01In,  h1, h2, decide_true, decide_false, Bool.not_true, Bool.not_false]
  · rw [insOk_no (by omega)]
    simp (maxSteps := 10000000) (disch := first | assumption | omega) only [F_spec_InsOk, params, EG, EL, ↓reduceIte, Nat.reduceEqDiff, Nat.reduceAdd, Nat.reduceSub, Nat.reduceMul, Nat.reduceLeDiff, Nat.reduceLT, Int.reduceLT, Int.reduceLE, Int.reduceEq, Int.reduceToNat, reduceCtorEq, FB, ED, cx_spec_InsOk, cl_spec_l01In, sem_spec_l01In,  h1, decide_true, decide_false, Bool.not_true, Bool.not_false]
theorem sem_impl_InsOk (op a b c : Int) : S_impl_InsOk.sem [.agg [.int .i64 op, .int .i64 a, .int .i64 b, .int .i64 c]] = some (.bool (insOk op a b c), []) := by
  rw [sg_impl_InsOk, sem_go]
  by_cases h1 : 1 ≤ op ∧ op ≤ 10
  · by_cases h2 : 0 ≤ a ∧ a ≤ 7
    · by_cases h3 : 0 ≤ b ∧ b ≤ 7
      · by_cases h4 : 0 ≤ c ∧ c ≤ 4194303
        · by_cases h5 : b = 0
          · subst h5
            have hb : (0 : Int) ≤ 0 ∧ (0 : Int) ≤ 7 := by omega
            have : op = 1 ∨ op = 2 ∨ op = 3 ∨ op = 4 ∨ op = 5 ∨ op = 6 ∨ op = 7 ∨ op = 8 ∨ op = 9 ∨ op = 10 := by omega
            rcases this with rfl | rfl | rfl | rfl | rfl | rfl | rfl | rfl | rfl | rfl
            all_goals simp (maxSteps := 10000000) (disch := first | assumption | omega) only [F_impl_InsOk, params, EG, EL, ↓reduceIte, Nat.reduceEqDiff, Nat.reduceAdd, Nat.reduceSub, Nat.reduceMul, Nat.reduceLeDiff, Nat.reduceLT, Int.reduceLT, Int.reduceLE, Int.reduceEq, Int.reduceToNat, reduceCtorEq, FB, ED, cx_impl_InsOk, cl_impl_within, sem_impl_within,  h1, h2, hb, h4, decide_true, decide_false, Bool.not_true, Bool.not_false]
            all_goals first | exact insOk_t (by omega) | exact insOk_d (by omega) | (split <;> first | exact insOk_t (by omega) | exact insOk_f (by omega)) | (by_cases h9 : 1 ≤ a ∧ a ≤ 7 <;> simp only [h9, if_true, if_false, decide_true, decide_false] <;> first | exact insOk_t (by omega) | exact insOk_f (by omega))
          · by_cases h6 : op = 4
            · subst h6
              simp (maxSteps := 10000000) (disch := first | assumption | omega) only [F_impl_InsOk, params, EG, EL, ↓reduceIte, Nat.reduceEqDiff, Nat.reduceAdd, Nat.reduceSub, Nat.reduceMul, Nat.reduceLeDiff, Nat.reduceLT, Int.reduceLT, Int.reduceLE, Int.reduceEq, Int.reduceToNat, reduceCtorEq, FB, ED, cx_impl_InsOk, cl_impl_within, sem_impl_within,  h1, h2, h3, h4, h5, decide_true, decide_false, Bool.not_true, Bool.not_false]
              all_goals first | exact insOk_t (by omega) | exact insOk_d (by omega) | (split <;> first | exact insOk_t (by omega) | exact insOk_f (by omega)) | (by_cases h9 : 1 ≤ a ∧ a ≤ 7 <;> simp only [h9, if_true, if_false, decide_true, decide_false] <;> first | exact insOk_t (by omega) | exact insOk_f (by omega))
            · by_cases h7 : op = 10
              · subst h7
                rw [insOk_no (by omega)]
                simp (maxSteps := 10000000) (disch := first | assumption | omega) only [F_impl_InsOk, params, EG, EL, ↓reduceIte, Nat.reduceEqDiff, Nat.reduceAdd, Nat.reduceSub, Nat.reduceMul, Nat.reduceLeDiff, Nat.reduceLT, Int.reduceLT, Int.reduceLE, Int.reduceEq, Int.reduceToNat, reduceCtorEq, FB, ED, cx_impl_InsOk, cl_impl_within, sem_impl_within,  h1, h2, h3, h4, h5, decide_true, decide_false, Bool.not_true, Bool.not_false]
                try simp
              · rw [insOk_no (by omega)]
                simp (maxSteps := 10000000) (disch := first | assumption | omega) only [F_impl_InsOk, params, EG, EL, ↓reduceIte, Nat.reduceEqDiff, Nat.reduceAdd, Nat.reduceSub, Nat.reduceMul, Nat.reduceLeDiff, Nat.reduceLT, Int.reduceLT, Int.reduceLE, Int.reduceEq, Int.reduceToNat, reduceCtorEq, FB, ED, cx_impl_InsOk, cl_impl_within, sem_impl_within,  h1, h2, h3, h4, h5, h6, h7, decide_true, decide_false, Bool.not_true, Bool.not_false]
        · rw [insOk_no (by omega)]
          simp (maxSteps := 10000000) (disch := first | assumption | omega) only [F_impl_InsOk, params, EG, EL, ↓reduceIte, Nat.reduceEqDiff, Nat.reduceAdd, Nat.reduceSub, Nat.reduceMul, Nat.reduceLeDiff, Nat.reduceLT, Int.reduceLT, Int.reduceLE, Int.reduceEq, Int.reduceToNat, reduceCtorEq, FB, ED, cx_impl_InsOk, cl_impl_within, sem_impl_within,  h1, h2, h3, h4, decide_true, decide_false, Bool.not_true, Bool.not_false]
      · rw [insOk_no (by omega)]
        simp (maxSteps := 10000000) (disch := first | assumption | omega) only [F_impl_InsOk, params, EG, EL, ↓reduceIte, Nat.reduceEqDiff, Nat.reduceAdd, Nat.reduceSub, Nat.reduceMul, Nat.reduceLeDiff, Nat.reduceLT, Int.reduceLT, Int.reduceLE, Int.reduceEq, Int.reduceToNat, reduceCtorEq, FB, ED, cx_impl_InsOk, cl_impl_within, sem_impl_within,  h1, h2, h3, decide_true, decide_false, Bool.not_true, Bool.not_false]
    · rw [insOk_no (by omega)]
      simp (maxSteps := 10000000) (disch := first | assumption | omega) only [F_impl_InsOk, params, EG, EL, ↓reduceIte, Nat.reduceEqDiff, Nat.reduceAdd, Nat.reduceSub, Nat.reduceMul, Nat.reduceLeDiff, Nat.reduceLT, Int.reduceLT, Int.reduceLE, Int.reduceEq, Int.reduceToNat, reduceCtorEq, FB, ED, cx_impl_InsOk, cl_impl_within, sem_impl_within,  h1, h2, decide_true, decide_false, Bool.not_true, Bool.not_false]
  · rw [insOk_no (by omega)]
    simp (maxSteps := 10000000) (disch := first | assumption | omega) only [F_impl_InsOk, params, EG, EL, ↓reduceIte, Nat.reduceEqDiff, Nat.reduceAdd, Nat.reduceSub, Nat.reduceMul, Nat.reduceLeDiff, Nat.reduceLT, Int.reduceLT, Int.reduceLE, Int.reduceEq, Int.reduceToNat, reduceCtorEq, FB, ED, cx_impl_InsOk, cl_impl_within, sem_impl_within,  h1, decide_true, decide_false, Bool.not_true, Bool.not_false]
def valOk (n : Int) : Bool := decide (-1000000 ≤ n ∧ n ≤ 1000000)
def bitF (b : Bool) : Int := if b = true then 1 else 0
def dOp (w : Int) : Int := w.fdiv (2 ^ 28)
def s25 (w : Int) : Int := w.fdiv (2 ^ 25)
def s22 (w : Int) : Int := w.fdiv (2 ^ 22)
def dA (w : Int) : Int := IntKind.wrap .i64 (BitVec.ofInt 64 (s25 w) &&& BitVec.ofInt 64 7).toNat
def dB (w : Int) : Int := IntKind.wrap .i64 (BitVec.ofInt 64 (s22 w) &&& BitVec.ofInt 64 7).toNat
def dC (w : Int) : Int := IntKind.wrap .i64 (BitVec.ofInt 64 w &&& BitVec.ofInt 64 4194303).toNat
theorem b28 {w : Int} : bin .shr (.int .i64 w) (.int .u64 28) = some (.int .i64 (dOp w)) := rfl
theorem b25 {w : Int} : bin .shr (.int .i64 w) (.int .u64 25) = some (.int .i64 (s25 w)) := rfl
theorem b22 {w : Int} : bin .shr (.int .i64 w) (.int .u64 22) = some (.int .i64 (s22 w)) := rfl
theorem bA {w : Int} : bin .and (.int .i64 (s25 w)) (.int .i64 7) = some (.int .i64 (dA w)) := rfl
theorem bB {w : Int} : bin .and (.int .i64 (s22 w)) (.int .i64 7) = some (.int .i64 (dB w)) := rfl
theorem bC {w : Int} : bin .and (.int .i64 w) (.int .i64 4194303) = some (.int .i64 (dC w)) := rfl
theorem valOk_zero : valOk 0 = true := by decide
theorem big_op {w : Int} (h : ¬ w ≤ 8589934592) : insOk (dOp w) (dA w) (dB w) (dC w) = false := by
  apply insOk_no
  have : 11 ≤ dOp w := by unfold dOp; rw [Int.fdiv_eq_ediv_of_nonneg _ (by decide)]; omega
  omega
def decOk (w : Int) : Bool := decide (0 ≤ w) && insOk (dOp w) (dA w) (dB w) (dC w)
def decR (w : Int) : AV := if decOk w = true then .tup [.agg [.int .i64 (dOp w), .int .i64 (dA w), .int .i64 (dB w), .int .i64 (dC w)], .bool true] else .tup [.agg [.int .i64 0, .int .i64 0, .int .i64 0, .int .i64 0], .bool false]
def calcN (op a b : Int) : Int := if op = 1 then IntKind.wrap .i64 (a + b) else if op = 2 then IntKind.wrap .i64 (a - b) else if op = 3 then IntKind.wrap .i64 (a * b) else if op = 4 then IntKind.wrap .i64 (a.tdiv b) else if op = 5 then a.tmod b else if op = 6 then bitF (decide (a < b)) else if op = 7 then bitF (decide (a = b)) else if op = 8 then bitF (!decide (a = 0) && !decide (b = 0)) else bitF (!decide (a = 0) || !decide (b = 0))
def calcF (op a b : Int) : Int × Int := if valOk a = true ∧ valOk b = true ∧ 1 ≤ op ∧ op ≤ 9 then (if b = 0 ∧ (op = 4 ∨ op = 5) then (0, 2) else if valOk (calcN op a b) = true then (calcN op a b, 0) else (0, 1)) else (0, 1)
def negF (a : Int) : Int × Int := if valOk a = true then (IntKind.wrap .i64 (0 - a), 0) else (0, 1)
def coreOkF (c : DCore) : Bool := c.Regs.all valOk && (decide (c.Regs.length = 8) && (decide (0 ≤ c.Pc) && decide (-1 ≤ c.Process ∧ c.Process ≤ 3)))
theorem sem_spec_ValOk (n : Int) : S_spec_ValOk.sem [.int .i64 n] = some (.bool (valOk n), []) := by
  rw [sg_spec_ValOk, sem_go]
  simp (maxSteps := 10000000) (disch := first | assumption | omega) only [F_spec_ValOk, params, EG, EL, ↓reduceIte, Nat.reduceEqDiff, Nat.reduceAdd, Nat.reduceSub, Nat.reduceMul, Nat.reduceLeDiff, Nat.reduceLT, Int.reduceLT, Int.reduceLE, Int.reduceEq, Int.reduceToNat, reduceCtorEq, FB, ED, cx_spec_ValOk, cl_spec_l01In, sem_spec_l01In, valOk]
theorem sem_spec_l03Bit (b : Bool) : S_spec_l03Bit.sem [.bool b] = some (.int .i64 (bitF b), []) := by
  rw [sg_spec_l03Bit, sem_go]
  cases b <;> simp (maxSteps := 10000000) (disch := first | assumption | omega) only [F_spec_l03Bit, params, EG, EL, ↓reduceIte, Nat.reduceEqDiff, Nat.reduceAdd, Nat.reduceSub, Nat.reduceMul, Nat.reduceLeDiff, Nat.reduceLT, Int.reduceLT, Int.reduceLE, Int.reduceEq, Int.reduceToNat, reduceCtorEq, FB, ED, cx_spec_l03Bit, bitF]
theorem sem_spec_Denied (n : Int) : S_spec_Denied.sem [.int .i64 n] = some (.int .i64 (bitF (decide (n = 0))), []) := by
  rw [sg_spec_Denied, sem_go]
  simp (maxSteps := 10000000) (disch := first | assumption | omega) only [F_spec_Denied, params, EG, EL, ↓reduceIte, Nat.reduceEqDiff, Nat.reduceAdd, Nat.reduceSub, Nat.reduceMul, Nat.reduceLeDiff, Nat.reduceLT, Int.reduceLT, Int.reduceLE, Int.reduceEq, Int.reduceToNat, reduceCtorEq, FB, ED, cx_spec_Denied, cl_spec_l03Bit, sem_spec_l03Bit]
theorem sem_spec_Negated (n : Int) : S_spec_Negated.sem [.int .i64 n] = some (.tup [.int .i64 (negF n).1, .int .i64 (negF n).2], []) := by
  rw [sg_spec_Negated, sem_go]
  cases h : valOk n <;> simp (maxSteps := 10000000) (disch := first | assumption | omega) only [F_spec_Negated, params, EG, EL, ↓reduceIte, Nat.reduceEqDiff, Nat.reduceAdd, Nat.reduceSub, Nat.reduceMul, Nat.reduceLeDiff, Nat.reduceLT, Int.reduceLT, Int.reduceLE, Int.reduceEq, Int.reduceToNat, reduceCtorEq, FB, ED, cx_spec_Negated, cl_spec_ValOk, sem_spec_ValOk, negF, h, Bool.not_true, Bool.not_false]
theorem sem_spec_Decode (w : Int) : S_spec_Decode.sem [.int .i64 w] = some (decR w, []) := by
  rw [sg_spec_Decode, sem_go]
  cases h2 : insOk (dOp w) (dA w) (dB w) (dC w) <;> by_cases h0 : 0 ≤ w <;> by_cases h1 : w ≤ 8589934592
  all_goals first | exact absurd (h2.symm.trans (big_op h1)) (by decide) | skip
  all_goals first | (have h0' : ¬ w < 0 := by omega) | (have h0' : w < 0 := by omega)
  all_goals simp (maxSteps := 10000000) (disch := first | assumption | omega) only [F_spec_Decode, params, EG, EL, ↓reduceIte, Nat.reduceEqDiff, Nat.reduceAdd, Nat.reduceSub, Nat.reduceMul, Nat.reduceLeDiff, Nat.reduceLT, Int.reduceLT, Int.reduceLE, Int.reduceEq, Int.reduceToNat, reduceCtorEq, FB, ED, FT, cx_spec_Decode, cl_spec_l01In, sem_spec_l01In, cl_spec_InsOk, sem_spec_InsOk, b28, b25, b22, bA, bB, bC, decR, decOk, h0, h0', h1, h2, and_self, and_true, true_and, and_false, false_and, decide_true, decide_false, Bool.true_and, Bool.false_and, Bool.not_true, Bool.not_false]
theorem sem_spec_Calc (op a b : Int) : S_spec_Calc.sem [.int .i64 op, .int .i64 a, .int .i64 b] = some (.tup [.int .i64 (calcF op a b).1, .int .i64 (calcF op a b).2], []) := by
  rw [sg_spec_Calc, sem_go]
  cases h1 : valOk a
  · simp (maxSteps := 10000000) (disch := first | assumption | omega) only [F_spec_Calc, params, EG, EL, ↓reduceIte, Nat.reduceEqDiff, Nat.reduceAdd, Nat.reduceSub, Nat.reduceMul, Nat.reduceLeDiff, Nat.reduceLT, Int.reduceLT, Int.reduceLE, Int.reduceEq, Int.reduceToNat, reduceCtorEq, FB, ED, cx_spec_Calc, cl_spec_l01In, sem_spec_l01In, cl_spec_l03Bit, sem_spec_l03Bit, cl_spec_ValOk, sem_spec_ValOk, Bool.not_true, Bool.not_false, decide_true, decide_false, Bool.true_and, Bool.false_and, Bool.true_or, Bool.false_or, h1, calcF]
    all_goals try (split <;> rfl)
  · cases h2 : valOk b
    · simp (maxSteps := 10000000) (disch := first | assumption | omega) only [F_spec_Calc, params, EG, EL, ↓reduceIte, Nat.reduceEqDiff, Nat.reduceAdd, Nat.reduceSub, Nat.reduceMul, Nat.reduceLeDiff, Nat.reduceLT, Int.reduceLT, Int.reduceLE, Int.reduceEq, Int.reduceToNat, reduceCtorEq, FB, ED, cx_spec_Calc, cl_spec_l01In, sem_spec_l01In, cl_spec_l03Bit, sem_spec_l03Bit, cl_spec_ValOk, sem_spec_ValOk, Bool.not_true, Bool.not_false, decide_true, decide_false, Bool.true_and, Bool.false_and, Bool.true_or, Bool.false_or, h1, h2, calcF]
      all_goals try (split <;> rfl)
    · by_cases h3 : 1 ≤ op ∧ op ≤ 9
      · have : op = 1 ∨ op = 2 ∨ op = 3 ∨ op = 4 ∨ op = 5 ∨ op = 6 ∨ op = 7 ∨ op = 8 ∨ op = 9 := by omega
        by_cases h4 : b = 0
        all_goals by_cases h5 : a = 0
        all_goals rcases this with rfl | rfl | rfl | rfl | rfl | rfl | rfl | rfl | rfl
        all_goals simp only [calcF, calcN, h1, h2, h4, h5, valOk_zero, EG, EL, ↓reduceIte, Nat.reduceEqDiff, Nat.reduceAdd, Nat.reduceSub, Nat.reduceMul, Nat.reduceLeDiff, Nat.reduceLT, Int.reduceLT, Int.reduceLE, Int.reduceEq, Int.reduceToNat, reduceCtorEq, FB, true_and, and_true, false_and, false_or, or_false, true_or, or_true]
        all_goals simp (maxSteps := 10000000) (disch := first | assumption | omega) only [F_spec_Calc, params, EG, EL, ↓reduceIte, Nat.reduceEqDiff, Nat.reduceAdd, Nat.reduceSub, Nat.reduceMul, Nat.reduceLeDiff, Nat.reduceLT, Int.reduceLT, Int.reduceLE, Int.reduceEq, Int.reduceToNat, reduceCtorEq, FB, ED, cx_spec_Calc, cl_spec_l01In, sem_spec_l01In, cl_spec_l03Bit, sem_spec_l03Bit, cl_spec_ValOk, sem_spec_ValOk, Bool.not_true, Bool.not_false, decide_true, decide_false, Bool.true_and, Bool.false_and, Bool.true_or, Bool.false_or, h1, h2, h4, h5, valOk_zero]
        all_goals first | rfl | (split <;> simp_all) | trace_state
      · simp (maxSteps := 10000000) (disch := first | assumption | omega) only [F_spec_Calc, params, EG, EL, ↓reduceIte, Nat.reduceEqDiff, Nat.reduceAdd, Nat.reduceSub, Nat.reduceMul, Nat.reduceLeDiff, Nat.reduceLT, Int.reduceLT, Int.reduceLE, Int.reduceEq, Int.reduceToNat, reduceCtorEq, FB, ED, cx_spec_Calc, cl_spec_l01In, sem_spec_l01In, cl_spec_l03Bit, sem_spec_l03Bit, cl_spec_ValOk, sem_spec_ValOk, Bool.not_true, Bool.not_false, decide_true, decide_false, Bool.true_and, Bool.false_and, Bool.true_or, Bool.false_or, h1, h2, h3, calcF]
        try trace_state
theorem sem_impl_ValOk (n : Int) : S_impl_ValOk.sem [.int .i64 n] = some (.bool (valOk n), []) := by
  rw [sg_impl_ValOk, sem_go]
  simp (maxSteps := 10000000) (disch := first | assumption | omega) only [F_impl_ValOk, params, EG, EL, ↓reduceIte, Nat.reduceEqDiff, Nat.reduceAdd, Nat.reduceSub, Nat.reduceMul, Nat.reduceLeDiff, Nat.reduceLT, Int.reduceLT, Int.reduceLE, Int.reduceEq, Int.reduceToNat, reduceCtorEq, FB, ED, cx_impl_ValOk, cl_impl_within, sem_impl_within, valOk]
theorem sem_impl_truth (b : Bool) : S_impl_truth.sem [.bool b] = some (.int .i64 (bitF b), []) := by
  rw [sg_impl_truth, sem_go]
  cases b <;> simp (maxSteps := 10000000) (disch := first | assumption | omega) only [F_impl_truth, params, EG, EL, ↓reduceIte, Nat.reduceEqDiff, Nat.reduceAdd, Nat.reduceSub, Nat.reduceMul, Nat.reduceLeDiff, Nat.reduceLT, Int.reduceLT, Int.reduceLE, Int.reduceEq, Int.reduceToNat, reduceCtorEq, FB, ED, cx_impl_truth, bitF]
theorem sem_impl_Denied (n : Int) : S_impl_Denied.sem [.int .i64 n] = some (.int .i64 (bitF (decide (n = 0))), []) := by
  rw [sg_impl_Denied, sem_go]
  simp (maxSteps := 10000000) (disch := first | assumption | omega) only [F_impl_Denied, params, EG, EL, ↓reduceIte, Nat.reduceEqDiff, Nat.reduceAdd, Nat.reduceSub, Nat.reduceMul, Nat.reduceLeDiff, Nat.reduceLT, Int.reduceLT, Int.reduceLE, Int.reduceEq, Int.reduceToNat, reduceCtorEq, FB, ED, cx_impl_Denied, cl_impl_truth, sem_impl_truth]
theorem sem_impl_Negated (n : Int) : S_impl_Negated.sem [.int .i64 n] = some (.tup [.int .i64 (negF n).1, .int .i64 (negF n).2], []) := by
  rw [sg_impl_Negated, sem_go]
  cases h : valOk n <;> simp (maxSteps := 10000000) (disch := first | assumption | omega) only [F_impl_Negated, params, EG, EL, ↓reduceIte, Nat.reduceEqDiff, Nat.reduceAdd, Nat.reduceSub, Nat.reduceMul, Nat.reduceLeDiff, Nat.reduceLT, Int.reduceLT, Int.reduceLE, Int.reduceEq, Int.reduceToNat, reduceCtorEq, FB, ED, cx_impl_Negated, cl_impl_ValOk, sem_impl_ValOk, negF, h, Bool.not_true, Bool.not_false]
theorem sem_impl_Decode (w : Int) : S_impl_Decode.sem [.int .i64 w] = some (decR w, []) := by
  rw [sg_impl_Decode, sem_go]
  cases h2 : insOk (dOp w) (dA w) (dB w) (dC w) <;> by_cases h0 : 0 ≤ w <;> by_cases h1 : w ≤ 8589934592
  all_goals first | exact absurd (h2.symm.trans (big_op h1)) (by decide) | skip
  all_goals first | (have h0' : ¬ w < 0 := by omega) | (have h0' : w < 0 := by omega)
  all_goals simp (maxSteps := 10000000) (disch := first | assumption | omega) only [F_impl_Decode, params, EG, EL, ↓reduceIte, Nat.reduceEqDiff, Nat.reduceAdd, Nat.reduceSub, Nat.reduceMul, Nat.reduceLeDiff, Nat.reduceLT, Int.reduceLT, Int.reduceLE, Int.reduceEq, Int.reduceToNat, reduceCtorEq, FB, ED, FT, cx_impl_Decode, cl_impl_within, sem_impl_within, cl_impl_InsOk, sem_impl_InsOk, b28, b25, b22, bA, bB, bC, decR, decOk, h0, h0', h1, h2, and_self, and_true, true_and, and_false, false_and, decide_true, decide_false, Bool.true_and, Bool.false_and, Bool.not_true, Bool.not_false]
theorem sem_impl_Calc (op a b : Int) : S_impl_Calc.sem [.int .i64 op, .int .i64 a, .int .i64 b] = some (.tup [.int .i64 (calcF op a b).1, .int .i64 (calcF op a b).2], []) := by
  rw [sg_impl_Calc, sem_go]
  cases h1 : valOk a
  · simp (maxSteps := 10000000) (disch := first | assumption | omega) only [F_impl_Calc, params, EG, EL, ↓reduceIte, Nat.reduceEqDiff, Nat.reduceAdd, Nat.reduceSub, Nat.reduceMul, Nat.reduceLeDiff, Nat.reduceLT, Int.reduceLT, Int.reduceLE, Int.reduceEq, Int.reduceToNat, reduceCtorEq, FB, ED, cx_impl_Calc, cl_impl_within, sem_impl_within, cl_impl_truth, sem_impl_truth, cl_impl_ValOk, sem_impl_ValOk, Bool.not_true, Bool.not_false, decide_true, decide_false, Bool.true_and, Bool.false_and, Bool.true_or, Bool.false_or, h1, calcF]
    all_goals try (split <;> rfl)
  · cases h2 : valOk b
    · simp (maxSteps := 10000000) (disch := first | assumption | omega) only [F_impl_Calc, params, EG, EL, ↓reduceIte, Nat.reduceEqDiff, Nat.reduceAdd, Nat.reduceSub, Nat.reduceMul, Nat.reduceLeDiff, Nat.reduceLT, Int.reduceLT, Int.reduceLE, Int.reduceEq, Int.reduceToNat, reduceCtorEq, FB, ED, cx_impl_Calc, cl_impl_within, sem_impl_within, cl_impl_truth, sem_impl_truth, cl_impl_ValOk, sem_impl_ValOk, Bool.not_true, Bool.not_false, decide_true, decide_false, Bool.true_and, Bool.false_and, Bool.true_or, Bool.false_or, h1, h2, calcF]
      all_goals try (split <;> rfl)
    · by_cases h3 : 1 ≤ op ∧ op ≤ 9
      · have : op = 1 ∨ op = 2 ∨ op = 3 ∨ op = 4 ∨ op = 5 ∨ op = 6 ∨ op = 7 ∨ op = 8 ∨ op = 9 := by omega
        by_cases h4 : b = 0
        all_goals by_cases h5 : a = 0
        all_goals rcases this with rfl | rfl | rfl | rfl | rfl | rfl | rfl | rfl | rfl
        all_goals simp only [calcF, calcN, h1, h2, h4, h5, valOk_zero, EG, EL, ↓reduceIte, Nat.reduceEqDiff, Nat.reduceAdd, Nat.reduceSub, Nat.reduceMul, Nat.reduceLeDiff, Nat.reduceLT, Int.reduceLT, Int.reduceLE, Int.reduceEq, Int.reduceToNat, reduceCtorEq, FB, true_and, and_true, false_and, false_or, or_false, true_or, or_true]
        all_goals simp (maxSteps := 10000000) (disch := first | assumption | omega) only [F_impl_Calc, params, EG, EL, ↓reduceIte, Nat.reduceEqDiff, Nat.reduceAdd, Nat.reduceSub, Nat.reduceMul, Nat.reduceLeDiff, Nat.reduceLT, Int.reduceLT, Int.reduceLE, Int.reduceEq, Int.reduceToNat, reduceCtorEq, FB, ED, cx_impl_Calc, cl_impl_within, sem_impl_within, cl_impl_truth, sem_impl_truth, cl_impl_ValOk, sem_impl_ValOk, Bool.not_true, Bool.not_false, decide_true, decide_false, Bool.true_and, Bool.false_and, Bool.true_or, Bool.false_or, h1, h2, h4, h5, valOk_zero]
        all_goals first | rfl | (split <;> simp_all) | trace_state
      · simp (maxSteps := 10000000) (disch := first | assumption | omega) only [F_impl_Calc, params, EG, EL, ↓reduceIte, Nat.reduceEqDiff, Nat.reduceAdd, Nat.reduceSub, Nat.reduceMul, Nat.reduceLeDiff, Nat.reduceLT, Int.reduceLT, Int.reduceLE, Int.reduceEq, Int.reduceToNat, reduceCtorEq, FB, ED, cx_impl_Calc, cl_impl_within, sem_impl_within, cl_impl_truth, sem_impl_truth, cl_impl_ValOk, sem_impl_ValOk, Bool.not_true, Bool.not_false, decide_true, decide_false, Bool.true_and, Bool.false_and, Bool.true_or, Bool.false_or, h1, h2, h3, calcF]
        try trace_state
theorem any_valOk {xs : List Int} : (xs.any fun n => !valOk n) = !(xs.all valOk) := by
  induction xs with
  | nil => rfl
  | cons y ys ih => cases h : valOk y <;> simp [ih, h]
def wordR (t : List Int) (pc : Int) : AV := if 0 ≤ pc ∧ pc ≤ (t.length : Int) - 1 then decR (t.getD pc.toNat 0) else .tup [.agg [.int .i64 0, .int .i64 0, .int .i64 0, .int .i64 0], .bool false]
def memF (op : Int) : Bool := decide (op = 2) || (decide (op = 3) || decide (op = 9))
theorem sem_spec_CoreOk (x : DCore) (hl : x.Regs.length ≤ 140737488351232) : S_spec_CoreOk.sem [.agg (cCore x)] = some (.bool (coreOkF x), []) := by
  have loop : loopV X_spec_CoreOk 0 [1, 3] [(1, [1]), (0, [2])] B0_spec_CoreOk ⟨[(1, .ptr ⟨0, none, 0⟩ 3 0 0), (3, .int .i64 0)], [some ⟨true, 0, 3, [cCore x]⟩]⟩ = okR (x.Regs.all valOk) 0 ⟨[(1, .ptr ⟨0, none, 0⟩ 3 0 0)], [some ⟨true, 0, 3, [cCore x]⟩]⟩ 2 := by
    refine loop_list x.Regs (fun _ (_ : Unit) => True) (fun i _ => ⟨[(1, .ptr ⟨0, none, 0⟩ 3 0 0), (3, .int .i64 ((i : Nat) : Int))], [some ⟨true, 0, 3, [cCore x]⟩]⟩) (fun rest _ => okR (rest.all valOk) 0 ⟨[(1, .ptr ⟨0, none, 0⟩ 3 0 0)], [some ⟨true, 0, 3, [cCore x]⟩]⟩ 2) ?_ ?_ () trivial
    · intro _ _
      rw [loopV_by B0_spec_CoreOk.eq_1]
      simp only [EG, EL, ↓reduceIte, Nat.reduceEqDiff, Nat.reduceAdd, Nat.reduceSub, Nat.reduceMul, Nat.reduceLeDiff, Nat.reduceLT, Int.reduceLT, Int.reduceLE, Int.reduceEq, Int.reduceToNat, reduceCtorEq, FB, int_lt_irrefl, List.all_nil, okR_true]
    · rintro i hi0 y rest _ rfl rfl _ ih
      have i1 := ih () trivial
      have hi : (i : Int) < (x.Regs.length : Int) := by omega
      simp only [cCore] at i1
      rw [loopV_by B0_spec_CoreOk.eq_1]
      cases h1 : valOk x.Regs[i]
      all_goals simp (maxSteps := 10000000) (disch := first | assumption | omega) only [cCore, EG, EL, ↓reduceIte, Nat.reduceEqDiff, Nat.reduceAdd, Nat.reduceSub, Nat.reduceMul, Nat.reduceLeDiff, Nat.reduceLT, Int.reduceLT, Int.reduceLE, Int.reduceEq, Int.reduceToNat, reduceCtorEq, FB, hi, wrap_succ, getRow _ _ hi0, h1, i1, cx_spec_CoreOk, cl_spec_ValOk, sem_spec_ValOk, List.all_cons, okR_false, decide_true, decide_false, Bool.not_true, Bool.not_false, Bool.true_and, Bool.false_and, Bool.and_true, Bool.and_false]
  rw [sg_spec_CoreOk, sem_go]
  cases ha : x.Regs.all valOk
  all_goals simp only [ha, EG, EL, ↓reduceIte, Nat.reduceEqDiff, Nat.reduceAdd, Nat.reduceSub, Nat.reduceMul, Nat.reduceLeDiff, Nat.reduceLT, Int.reduceLT, Int.reduceLE, Int.reduceEq, Int.reduceToNat, reduceCtorEq, FB, okR_true, okR_false, cCore] at loop
  · simp (maxSteps := 10000000) (disch := first | assumption | omega) only [cCore, F_spec_CoreOk, params, EG, EL, ↓reduceIte, Nat.reduceEqDiff, Nat.reduceAdd, Nat.reduceSub, Nat.reduceMul, Nat.reduceLeDiff, Nat.reduceLT, Int.reduceLT, Int.reduceLE, Int.reduceEq, Int.reduceToNat, reduceCtorEq, FB, cx_spec_CoreOk, ha, loop, coreOkF, decide_true, decide_false, Bool.not_true, Bool.not_false, Bool.true_and, Bool.false_and, Bool.and_true, Bool.and_false]
  · by_cases h8 : x.Regs.length = 8
    · have h8' : (x.Regs.length : Int) = 8 := by omega
      by_cases hp : 0 ≤ x.Pc
      all_goals simp (maxSteps := 10000000) (disch := first | assumption | omega) only [cCore, F_spec_CoreOk, params, EG, EL, ↓reduceIte, Nat.reduceEqDiff, Nat.reduceAdd, Nat.reduceSub, Nat.reduceMul, Nat.reduceLeDiff, Nat.reduceLT, Int.reduceLT, Int.reduceLE, Int.reduceEq, Int.reduceToNat, reduceCtorEq, FB, cx_spec_CoreOk, ha, loop, coreOkF, h8, h8', hp, cl_spec_l01In, sem_spec_l01In, decide_true, decide_false, Bool.not_true, Bool.not_false, Bool.true_and, Bool.false_and, Bool.and_true, Bool.and_false]
    · have h8' : ¬ (x.Regs.length : Int) = 8 := by omega
      simp (maxSteps := 10000000) (disch := first | assumption | omega) only [cCore, F_spec_CoreOk, params, EG, EL, ↓reduceIte, Nat.reduceEqDiff, Nat.reduceAdd, Nat.reduceSub, Nat.reduceMul, Nat.reduceLeDiff, Nat.reduceLT, Int.reduceLT, Int.reduceLE, Int.reduceEq, Int.reduceToNat, reduceCtorEq, FB, cx_spec_CoreOk, ha, loop, coreOkF, h8, h8', decide_true, decide_false, Bool.not_true, Bool.not_false, Bool.true_and, Bool.false_and, Bool.and_true, Bool.and_false]
theorem sem_impl_CoreOk_1 (n : Int) : S_impl_CoreOk_1.sem [.int .i64 n] = some (.bool (!valOk n), []) := by
  rw [sg_impl_CoreOk_1, sem_go]
  simp (maxSteps := 10000000) (disch := first | assumption | omega) only [F_impl_CoreOk_1, params, EG, EL, ↓reduceIte, Nat.reduceEqDiff, Nat.reduceAdd, Nat.reduceSub, Nat.reduceMul, Nat.reduceLeDiff, Nat.reduceLT, Int.reduceLT, Int.reduceLE, Int.reduceEq, Int.reduceToNat, reduceCtorEq, FB, cx_impl_CoreOk_1, cl_impl_ValOk, sem_impl_ValOk]
theorem sem_ix_impl_CoreOk_1 (xs : List Int) (hl : xs.length ≤ 140737488351232) : S_slices_IndexFunc_int_int.sem [.tree 1 (xs.map cI), .fn 142 []] = some (.int .i64 (fIx (fun n => !valOk n) xs 0), []) := by
  have loop : loopV X_slices_IndexFunc_int_int 0 [0, 1, 7, 8] [(1, []), (0, [4])] B0_slices_IndexFunc_int_int ⟨[(0, .tree 1 (xs.map cI)), (1, .fn 142 []), (7, .int .i64 xs.length), (8, .int .i64 0)], []⟩ = fixR 4 (fIx (fun n => !valOk n) xs 0) := by
    refine loop_list xs (fun i a => a = i) (fun i a => ⟨[(0, .tree 1 (xs.map cI)), (1, .fn 142 []), (7, .int .i64 xs.length), (8, .int .i64 (i : Int))], []⟩) (fun rest a => fixR 4 (fIx (fun n => !valOk n) rest a)) ?_ ?_ 0 rfl
    · rintro a rfl
      rw [loopV_by B0_slices_IndexFunc_int_int.eq_1]
      simp only [EG, EL, ↓reduceIte, Nat.reduceEqDiff, Nat.reduceAdd, Nat.reduceSub, Nat.reduceMul, Nat.reduceLeDiff, Nat.reduceLT, Int.reduceLT, Int.reduceLE, Int.reduceEq, Int.reduceToNat, reduceCtorEq, FB, int_lt_irrefl]
      exact fixR_nil
    · rintro i h x rest a rfl rfl rfl ih
      have hi : (a : Int) < (xs.length : Int) := by omega
      have i1 := sem_impl_CoreOk_1 xs[a]
      rw [loopV_by B0_slices_IndexFunc_int_int.eq_1]
      cases h1 : valOk xs[a]
      all_goals simp only [h1, decide_true, decide_false, Bool.not_true, Bool.not_false, Bool.true_and, Bool.false_and, Bool.and_true, Bool.and_false] at i1
      all_goals simp (maxSteps := 10000000) (disch := first | assumption | omega) only [EG, EL, ↓reduceIte, Nat.reduceEqDiff, Nat.reduceAdd, Nat.reduceSub, Nat.reduceMul, Nat.reduceLeDiff, Nat.reduceLT, Int.reduceLT, Int.reduceLE, Int.reduceEq, Int.reduceToNat, reduceCtorEq, FB, hi, wrap_succ, getRow _ _ h, ih _ rfl, cx_slices_IndexFunc_int_int, cl_impl_CoreOk_1, i1, h1, decide_true, decide_false, Bool.not_true, Bool.not_false, Bool.true_and, Bool.false_and, Bool.and_true, Bool.and_false]
      all_goals first | exact fixR_yes (by simp [h1]) | exact fixR_no (by simp [h1])
  rw [sg_slices_IndexFunc_int_int, sem_go]
  simp (maxSteps := 10000000) (disch := first | assumption | omega) only [F_slices_IndexFunc_int_int, params, EG, EL, ↓reduceIte, Nat.reduceEqDiff, Nat.reduceAdd, Nat.reduceSub, Nat.reduceMul, Nat.reduceLeDiff, Nat.reduceLT, Int.reduceLT, Int.reduceLE, Int.reduceEq, Int.reduceToNat, reduceCtorEq, FB, loop, goE_fixR]
  rcases @fIx_ge _ (fun n => !valOk n) xs 0 with h | h
  · simp [h]
  · rw [if_neg (by omega)]
theorem sem_ct_impl_CoreOk_1 (xs : List Int) (hl : xs.length ≤ 140737488351232) : S_slices_ContainsFunc_int_int.sem [.tree 1 (xs.map cI), .fn 142 []] = some (.bool (!(xs.all valOk)), []) := by
  rw [sg_slices_ContainsFunc_int_int, sem_go]
  simp (maxSteps := 10000000) (disch := first | assumption | omega) only [F_slices_ContainsFunc_int_int, params, EG, EL, ↓reduceIte, Nat.reduceEqDiff, Nat.reduceAdd, Nat.reduceSub, Nat.reduceMul, Nat.reduceLeDiff, Nat.reduceLT, Int.reduceLT, Int.reduceLE, Int.reduceEq, Int.reduceToNat, reduceCtorEq, FB, cx_slices_ContainsFunc_int_int, cl_slices_IndexFunc_int_int, sem_ix_impl_CoreOk_1, fIx_any, Bool.decide_eq_true, any_valOk]
  cases xs.all valOk <;> rfl
theorem sem_impl_CoreOk (x : DCore) (hl : x.Regs.length ≤ 140737488351232) : S_impl_CoreOk.sem [.agg (cCore x)] = some (.bool (coreOkF x), []) := by
  rw [sg_impl_CoreOk, sem_go]
  by_cases h8 : x.Regs.length = 8
  · have h8' : (x.Regs.length : Int) = 8 := by omega
    cases ha : x.Regs.all valOk <;> by_cases hp : 0 ≤ x.Pc
    all_goals simp (maxSteps := 10000000) (disch := first | assumption | omega) only [cCore, F_impl_CoreOk, params, EG, EL, ↓reduceIte, Nat.reduceEqDiff, Nat.reduceAdd, Nat.reduceSub, Nat.reduceMul, Nat.reduceLeDiff, Nat.reduceLT, Int.reduceLT, Int.reduceLE, Int.reduceEq, Int.reduceToNat, reduceCtorEq, FB, cx_impl_CoreOk, ha, coreOkF, h8, h8', hp, cl_impl_within, sem_impl_within, cl_slices_ContainsFunc_int_int, sem_ct_impl_CoreOk_1, decide_true, decide_false, Bool.not_true, Bool.not_false, Bool.true_and, Bool.false_and, Bool.and_true, Bool.and_false]
  · have h8' : ¬ (x.Regs.length : Int) = 8 := by omega
    simp (maxSteps := 10000000) (disch := first | assumption | omega) only [cCore, F_impl_CoreOk, params, EG, EL, ↓reduceIte, Nat.reduceEqDiff, Nat.reduceAdd, Nat.reduceSub, Nat.reduceMul, Nat.reduceLeDiff, Nat.reduceLT, Int.reduceLT, Int.reduceLE, Int.reduceEq, Int.reduceToNat, reduceCtorEq, FB, cx_impl_CoreOk, coreOkF, h8, h8', decide_true, decide_false, Bool.not_true, Bool.not_false, Bool.true_and, Bool.false_and, Bool.and_true, Bool.and_false]
theorem sem_impl_wordAt (t : List Int) (pc : Int) (hl : t.length ≤ 1048576) : S_impl_wordAt.sem [.tree 1 (t.map cI), .int .i64 pc] = some (wordR t pc, []) := by
  rw [sg_impl_wordAt, sem_go]
  have hw : IntKind.wrap .i64 ((t.length : Int) - 1) = (t.length : Int) - 1 := wrapI (by omega) (by omega)
  by_cases h : 0 ≤ pc ∧ pc ≤ (t.length : Int) - 1
  · obtain ⟨n, rfl⟩ : ∃ n : Nat, pc = (n : Int) := ⟨pc.toNat, by omega⟩
    have hn : n < t.length := by omega
    have hn' : (n : Int) < (t.length : Int) := by omega
    have hg : t.getD n 0 = t[n] := by simp [hn]
    cases hd : decOk t[n]
    all_goals simp (maxSteps := 10000000) (disch := first | assumption | omega) only [F_impl_wordAt, params, EG, EL, ↓reduceIte, Nat.reduceEqDiff, Nat.reduceAdd, Nat.reduceSub, Nat.reduceMul, Nat.reduceLeDiff, Nat.reduceLT, Int.reduceLT, Int.reduceLE, Int.reduceEq, Int.reduceToNat, reduceCtorEq, FB, ED, FT, cx_impl_wordAt, cl_impl_within, sem_impl_within, cl_impl_Decode, sem_impl_Decode, wordR, decR, h, hw, hg, hd, getRow _ _ hn, hn', Int.toNat_natCast, and_self, decide_true, decide_false, Bool.not_true, Bool.not_false, Bool.true_and, Bool.false_and, Bool.and_true, Bool.and_false]
  · simp (maxSteps := 10000000) (disch := first | assumption | omega) only [F_impl_wordAt, params, EG, EL, ↓reduceIte, Nat.reduceEqDiff, Nat.reduceAdd, Nat.reduceSub, Nat.reduceMul, Nat.reduceLeDiff, Nat.reduceLT, Int.reduceLT, Int.reduceLE, Int.reduceEq, Int.reduceToNat, reduceCtorEq, FB, ED, FT, cx_impl_wordAt, cl_impl_within, sem_impl_within, wordR, h, hw, decide_true, decide_false, Bool.not_true, Bool.not_false, Bool.true_and, Bool.false_and, Bool.and_true, Bool.and_false]
theorem sem_impl_usesMem (op a b c : Int) : S_impl_usesMem.sem [.agg [.int .i64 op, .int .i64 a, .int .i64 b, .int .i64 c]] = some (.bool (memF op), []) := by
  rw [sg_impl_usesMem, sem_go]
  by_cases h2 : op = 2 <;> by_cases h3 : op = 3 <;> simp (maxSteps := 10000000) (disch := first | assumption | omega) only [F_impl_usesMem, params, EG, EL, ↓reduceIte, Nat.reduceEqDiff, Nat.reduceAdd, Nat.reduceSub, Nat.reduceMul, Nat.reduceLeDiff, Nat.reduceLT, Int.reduceLT, Int.reduceLE, Int.reduceEq, Int.reduceToNat, reduceCtorEq, FB, ED, cx_impl_usesMem, memF, h2, h3, decide_true, decide_false, Bool.not_true, Bool.not_false, Bool.true_and, Bool.false_and, Bool.and_true, Bool.and_false, Bool.true_or, Bool.false_or]
def stepG (x : DCore) (m : List Int) (op : Int) (a b c : Nat) : DCore × List Int × Int :=
  if op = 2 ∨ op = 3 ∨ op = 9 then
    if m.length ≤ c then (x, m, 4)
    else if op = 3 then ({ x with Pc := IntKind.wrap .i64 (x.Pc + 1) }, m.set c (x.Regs.getD a 0), 0)
    else if valOk (m.getD c 0) = true then ({ x with Regs := x.Regs.set a (m.getD c 0), Pc := IntKind.wrap .i64 (x.Pc + 1) }, if op = 9 then m.set c 1 else m, 0)
    else (x, m, 4)
  else if op = 7 then ({ x with Pc := if x.Regs.getD a 0 = 0 then (c : Int) else IntKind.wrap .i64 (x.Pc + 1) }, m, 0)
  else if op = 8 then ({ x with Pc := (c : Int) }, m, 0)
  else if op = 10 then ({ x with Pc := IntKind.wrap .i64 (x.Pc + 1) }, m, 10)
  else
    let r : Int × Int := if op = 1 then ((c : Int), 0) else if op = 4 then calcF c (x.Regs.getD a 0) (x.Regs.getD b 0) else if op = 5 then (bitF (decide (x.Regs.getD a 0 = 0)), 0) else negF (x.Regs.getD a 0)
    if r.2 = 0 then ({ x with Regs := x.Regs.set a r.1, Pc := IntKind.wrap .i64 (x.Pc + 1) }, m, 0) else (x, m, r.2)
def stepF (x : DCore) (t m : List Int) : DCore × List Int × Int :=
  if coreOkF x = true ∧ (0 ≤ x.Pc ∧ x.Pc ≤ (t.length : Int) - 1) ∧ decOk (t.getD x.Pc.toNat 0) = true then stepG x m (dOp (t.getD x.Pc.toNat 0)) (dA (t.getD x.Pc.toNat 0)).toNat (dB (t.getD x.Pc.toNat 0)).toNat (dC (t.getD x.Pc.toNat 0)).toNat else (x, m, 4)
theorem decOk_bounds {w : Int} (h : decOk w = true) : ∃ op : Int, ∃ a b c : Nat, dOp w = op ∧ dA w = (a : Int) ∧ dB w = (b : Int) ∧ dC w = (c : Int) ∧ (1 ≤ op ∧ op ≤ 10) ∧ a < 8 ∧ b < 8 ∧ c ≤ 4194303 := by
  simp only [decOk, insOk, Bool.and_eq_true, decide_eq_true_eq] at h
  exact ⟨dOp w, (dA w).toNat, (dB w).toNat, (dC w).toNat, rfl, by omega, by omega, by omega, by omega, by omega, by omega, by omega⟩
theorem coreOk_len {x : DCore} (h : coreOkF x = true) : x.Regs.length = 8 ∧ 0 ≤ x.Pc := by
  simp only [coreOkF, Bool.and_eq_true, decide_eq_true_eq] at h
  exact ⟨h.2.1, h.2.2.1⟩
set_option maxHeartbeats 4000000 in
theorem sem_spec_StepCore (x : DCore) (t m : List Int) (hr : x.Regs.length ≤ 1048576) (ht : t.length ≤ 1048576) (hm : m.length ≤ 1048576) : S_spec_StepCore.sem [.agg (cCore x), .tree 1 (t.map cI), .tree 1 (m.map cI)] = some (.tup [.agg (cCore (stepF x t m).1), .tree 1 ((stepF x t m).2.1.map cI), .int .i64 (stepF x t m).2.2], []) := by
  obtain ⟨rs, pc, pr⟩ := x
  simp only at hr
  have hk := sem_spec_l15Copy ⟨rs, pc, pr⟩ hr
  have ho := sem_spec_CoreOk ⟨rs, pc, pr⟩ (Nat.le_trans hr (by omega))
  have hw : IntKind.wrap .i64 ((t.length : Int) - 1) = (t.length : Int) - 1 := wrapI (by omega) (by omega)
  have hw2 : IntKind.wrap .i64 ((m.length : Int) - 1) = (m.length : Int) - 1 := wrapI (by omega) (by omega)
  have hcap : m.length * 8 ≤ 70368744177664 := by omega
  have hcap2 : rs.length * 8 ≤ 70368744177664 := by omega
  simp only [cCore] at hk ho
  rw [sg_spec_StepCore, sem_go]
  by_cases hp : 0 ≤ pc ∧ pc ≤ (t.length : Int) - 1
  · obtain ⟨p, rfl⟩ : ∃ n : Nat, pc = (n : Int) := ⟨pc.toNat, by omega⟩
    have hpn : p < t.length := by omega
    have hpn' : (p : Int) < (t.length : Int) := by omega
    have hg : t.getD p 0 = t[p] := by simp [hpn]
    cases hd : decOk t[p]
    · have e : stepF ⟨rs, p, pr⟩ t m = (⟨rs, p, pr⟩, m, 4) := by simp only [stepF, Int.toNat_natCast, hg, hd]; simp
      have hD := sem_spec_Decode t[p]
      simp only [decR, hd, if_false, Bool.false_eq_true] at hD
      cases hc : coreOkF ⟨rs, p, pr⟩ <;> simp only [hc] at ho
      all_goals simp (maxSteps := 10000000) (disch := first | assumption | omega) only [cCore, F_spec_StepCore, params, EG, EL, ↓reduceIte, Nat.reduceEqDiff, Nat.reduceAdd, Nat.reduceSub, Nat.reduceMul, Nat.reduceLeDiff, Nat.reduceLT, Int.reduceLT, Int.reduceLE, Int.reduceEq, Int.reduceToNat, reduceCtorEq, FB, ED, FT, cx_spec_StepCore, hw, hw2, hcap, hcap2, and_self, hp, cl_spec_l15Copy, hk, cl_spec_l15Step, run_goF, F_spec_l15Step, cx_spec_l15Step, cl_spec_CoreOk, ho, cl_spec_l01In, sem_spec_l01In, cl_spec_Decode, hD, cl_spec_l15Mem, F_spec_l15Mem, cx_spec_l15Mem, cl_spec_l15Calc, F_spec_l15Calc, cx_spec_l15Calc, cl_spec_ValOk, sem_spec_ValOk, cl_spec_Calc, sem_spec_Calc, cl_spec_Denied, sem_spec_Denied, cl_spec_Negated, sem_spec_Negated, decide_true, decide_false, Bool.not_true, Bool.not_false, Bool.true_and, Bool.false_and, Bool.and_true, Bool.and_false, Bool.true_or, Bool.false_or, Bool.or_false, Bool.or_true, e, hpn', getRow _ _ hpn]
    · obtain ⟨op, a, b, c, e1, e2, e3, e4, hop, ha, hb, hcc⟩ := decOk_bounds hd
      have hD := sem_spec_Decode t[p]
      simp only [decR, hd, if_true, e1, e2, e3, e4] at hD
      cases hc : coreOkF ⟨rs, p, pr⟩ <;> simp only [hc] at ho
      · have e : stepF ⟨rs, p, pr⟩ t m = (⟨rs, p, pr⟩, m, 4) := by simp only [stepF, hc]; simp
        simp (maxSteps := 10000000) (disch := first | assumption | omega) only [cCore, F_spec_StepCore, params, EG, EL, ↓reduceIte, Nat.reduceEqDiff, Nat.reduceAdd, Nat.reduceSub, Nat.reduceMul, Nat.reduceLeDiff, Nat.reduceLT, Int.reduceLT, Int.reduceLE, Int.reduceEq, Int.reduceToNat, reduceCtorEq, FB, ED, FT, cx_spec_StepCore, hw, hw2, hcap, hcap2, and_self, hp, cl_spec_l15Copy, hk, cl_spec_l15Step, run_goF, F_spec_l15Step, cx_spec_l15Step, cl_spec_CoreOk, ho, cl_spec_l01In, sem_spec_l01In, cl_spec_Decode, hD, cl_spec_l15Mem, F_spec_l15Mem, cx_spec_l15Mem, cl_spec_l15Calc, F_spec_l15Calc, cx_spec_l15Calc, cl_spec_ValOk, sem_spec_ValOk, cl_spec_Calc, sem_spec_Calc, cl_spec_Denied, sem_spec_Denied, cl_spec_Negated, sem_spec_Negated, decide_true, decide_false, Bool.not_true, Bool.not_false, Bool.true_and, Bool.false_and, Bool.and_true, Bool.and_false, Bool.true_or, Bool.false_or, Bool.or_false, Bool.or_true, e, hpn', getRow _ _ hpn]
      · obtain ⟨h8, h0⟩ := coreOk_len hc
        simp only at h8 h0
        have har : a < rs.length := by omega
        have hbr : b < rs.length := by omega
        have har' : (a : Int) < (rs.length : Int) := by omega
        have hbr' : (b : Int) < (rs.length : Int) := by omega
        have hga : rs.getD a 0 = rs[a] := by simp [har]
        have hgb : rs.getD b 0 = rs[b] := by simp [hbr]
        have hss : rs.set a rs[a] = rs := List.set_getElem_self ..
        have e : stepF ⟨rs, p, pr⟩ t m = stepG ⟨rs, p, pr⟩ m op a b c := by
          simp only [stepF, Int.toNat_natCast, hg, hd, hc, e1, e2, e3, e4]
          rw [if_pos ⟨trivial, hp, trivial⟩]
        rw [e]
        have : op = 1 ∨ op = 2 ∨ op = 3 ∨ op = 4 ∨ op = 5 ∨ op = 6 ∨ op = 7 ∨ op = 8 ∨ op = 9 ∨ op = 10 := by omega
        rcases this with rfl | rfl | rfl | rfl | rfl | rfl | rfl | rfl | rfl | rfl
        · simp (maxSteps := 10000000) (disch := first | assumption | omega) only [cCore, F_spec_StepCore, params, EG, EL, ↓reduceIte, Nat.reduceEqDiff, Nat.reduceAdd, Nat.reduceSub, Nat.reduceMul, Nat.reduceLeDiff, Nat.reduceLT, Int.reduceLT, Int.reduceLE, Int.reduceEq, Int.reduceToNat, reduceCtorEq, FB, ED, FT, cx_spec_StepCore, hw, hw2, hcap, hcap2, and_self, hp, cl_spec_l15Copy, hk, cl_spec_l15Step, run_goF, F_spec_l15Step, cx_spec_l15Step, cl_spec_CoreOk, ho, cl_spec_l01In, sem_spec_l01In, cl_spec_Decode, hD, cl_spec_l15Mem, F_spec_l15Mem, cx_spec_l15Mem, cl_spec_l15Calc, F_spec_l15Calc, cx_spec_l15Calc, cl_spec_ValOk, sem_spec_ValOk, cl_spec_Calc, sem_spec_Calc, cl_spec_Denied, sem_spec_Denied, cl_spec_Negated, sem_spec_Negated, decide_true, decide_false, Bool.not_true, Bool.not_false, Bool.true_and, Bool.false_and, Bool.and_true, Bool.and_false, Bool.true_or, Bool.false_or, Bool.or_false, Bool.or_true, hpn', getRow _ _ hpn, getRow _ _ har, getRow _ _ hbr, har, hbr, har', hbr', hga, hgb, hss, stepG, true_or, or_true, false_or, or_false, or_self]
        · by_cases hcm : c < m.length
          rotate_left
          · have hcm1 : ¬ (c : Int) ≤ (m.length : Int) - 1 := by omega
            have hcm2 : (m.length : Int) ≤ (c : Int) := by omega
            have hcm3 : m.length ≤ c := by omega
            have hcm4 : ¬ (c : Int) < (m.length : Int) := by omega
            simp (maxSteps := 10000000) (disch := first | assumption | omega) only [cCore, F_spec_StepCore, params, EG, EL, ↓reduceIte, Nat.reduceEqDiff, Nat.reduceAdd, Nat.reduceSub, Nat.reduceMul, Nat.reduceLeDiff, Nat.reduceLT, Int.reduceLT, Int.reduceLE, Int.reduceEq, Int.reduceToNat, reduceCtorEq, FB, ED, FT, cx_spec_StepCore, hw, hw2, hcap, hcap2, and_self, hp, cl_spec_l15Copy, hk, cl_spec_l15Step, run_goF, F_spec_l15Step, cx_spec_l15Step, cl_spec_CoreOk, ho, cl_spec_l01In, sem_spec_l01In, cl_spec_Decode, hD, cl_spec_l15Mem, F_spec_l15Mem, cx_spec_l15Mem, cl_spec_l15Calc, F_spec_l15Calc, cx_spec_l15Calc, cl_spec_ValOk, sem_spec_ValOk, cl_spec_Calc, sem_spec_Calc, cl_spec_Denied, sem_spec_Denied, cl_spec_Negated, sem_spec_Negated, decide_true, decide_false, Bool.not_true, Bool.not_false, Bool.true_and, Bool.false_and, Bool.and_true, Bool.and_false, Bool.true_or, Bool.false_or, Bool.or_false, Bool.or_true, hpn', getRow _ _ hpn, getRow _ _ har, getRow _ _ hbr, har, hbr, har', hbr', hga, hgb, hss, stepG, true_or, or_true, false_or, or_false, or_self, hcm, hcm1, hcm2, hcm3, hcm4]
          · have hcm1 : (c : Int) ≤ (m.length : Int) - 1 := by omega
            have hcm2 : ¬ (m.length : Int) ≤ (c : Int) := by omega
            have hcm3 : ¬ m.length ≤ c := by omega
            have hcm4 : (c : Int) < (m.length : Int) := by omega
            have hgm : m.getD c 0 = m[c] := by simp [hcm]
            cases hv : valOk m[c]
            all_goals simp (maxSteps := 10000000) (disch := first | assumption | omega) only [cCore, F_spec_StepCore, params, EG, EL, ↓reduceIte, Nat.reduceEqDiff, Nat.reduceAdd, Nat.reduceSub, Nat.reduceMul, Nat.reduceLeDiff, Nat.reduceLT, Int.reduceLT, Int.reduceLE, Int.reduceEq, Int.reduceToNat, reduceCtorEq, FB, ED, FT, cx_spec_StepCore, hw, hw2, hcap, hcap2, and_self, hp, cl_spec_l15Copy, hk, cl_spec_l15Step, run_goF, F_spec_l15Step, cx_spec_l15Step, cl_spec_CoreOk, ho, cl_spec_l01In, sem_spec_l01In, cl_spec_Decode, hD, cl_spec_l15Mem, F_spec_l15Mem, cx_spec_l15Mem, cl_spec_l15Calc, F_spec_l15Calc, cx_spec_l15Calc, cl_spec_ValOk, sem_spec_ValOk, cl_spec_Calc, sem_spec_Calc, cl_spec_Denied, sem_spec_Denied, cl_spec_Negated, sem_spec_Negated, decide_true, decide_false, Bool.not_true, Bool.not_false, Bool.true_and, Bool.false_and, Bool.and_true, Bool.and_false, Bool.true_or, Bool.false_or, Bool.or_false, Bool.or_true, hpn', getRow _ _ hpn, getRow _ _ har, getRow _ _ hbr, har, hbr, har', hbr', hga, hgb, hgm, hv, hss, stepG, true_or, or_true, false_or, or_false, or_self, hcm, hcm1, hcm2, hcm3, hcm4, getRow _ _ hcm]
        · by_cases hcm : c < m.length
          rotate_left
          · have hcm1 : ¬ (c : Int) ≤ (m.length : Int) - 1 := by omega
            have hcm2 : (m.length : Int) ≤ (c : Int) := by omega
            have hcm3 : m.length ≤ c := by omega
            have hcm4 : ¬ (c : Int) < (m.length : Int) := by omega
            simp (maxSteps := 10000000) (disch := first | assumption | omega) only [cCore, F_spec_StepCore, params, EG, EL, ↓reduceIte, Nat.reduceEqDiff, Nat.reduceAdd, Nat.reduceSub, Nat.reduceMul, Nat.reduceLeDiff, Nat.reduceLT, Int.reduceLT, Int.reduceLE, Int.reduceEq, Int.reduceToNat, reduceCtorEq, FB, ED, FT, cx_spec_StepCore, hw, hw2, hcap, hcap2, and_self, hp, cl_spec_l15Copy, hk, cl_spec_l15Step, run_goF, F_spec_l15Step, cx_spec_l15Step, cl_spec_CoreOk, ho, cl_spec_l01In, sem_spec_l01In, cl_spec_Decode, hD, cl_spec_l15Mem, F_spec_l15Mem, cx_spec_l15Mem, cl_spec_l15Calc, F_spec_l15Calc, cx_spec_l15Calc, cl_spec_ValOk, sem_spec_ValOk, cl_spec_Calc, sem_spec_Calc, cl_spec_Denied, sem_spec_Denied, cl_spec_Negated, sem_spec_Negated, decide_true, decide_false, Bool.not_true, Bool.not_false, Bool.true_and, Bool.false_and, Bool.and_true, Bool.and_false, Bool.true_or, Bool.false_or, Bool.or_false, Bool.or_true, hpn', getRow _ _ hpn, getRow _ _ har, getRow _ _ hbr, har, hbr, har', hbr', hga, hgb, hss, stepG, true_or, or_true, false_or, or_false, or_self, hcm, hcm1, hcm2, hcm3, hcm4]
          · have hcm1 : (c : Int) ≤ (m.length : Int) - 1 := by omega
            have hcm2 : ¬ (m.length : Int) ≤ (c : Int) := by omega
            have hcm3 : ¬ m.length ≤ c := by omega
            have hcm4 : (c : Int) < (m.length : Int) := by omega
            have hgm : m.getD c 0 = m[c] := by simp [hcm]
            simp (maxSteps := 10000000) (disch := first | assumption | omega) only [cCore, F_spec_StepCore, params, EG, EL, ↓reduceIte, Nat.reduceEqDiff, Nat.reduceAdd, Nat.reduceSub, Nat.reduceMul, Nat.reduceLeDiff, Nat.reduceLT, Int.reduceLT, Int.reduceLE, Int.reduceEq, Int.reduceToNat, reduceCtorEq, FB, ED, FT, cx_spec_StepCore, hw, hw2, hcap, hcap2, and_self, hp, cl_spec_l15Copy, hk, cl_spec_l15Step, run_goF, F_spec_l15Step, cx_spec_l15Step, cl_spec_CoreOk, ho, cl_spec_l01In, sem_spec_l01In, cl_spec_Decode, hD, cl_spec_l15Mem, F_spec_l15Mem, cx_spec_l15Mem, cl_spec_l15Calc, F_spec_l15Calc, cx_spec_l15Calc, cl_spec_ValOk, sem_spec_ValOk, cl_spec_Calc, sem_spec_Calc, cl_spec_Denied, sem_spec_Denied, cl_spec_Negated, sem_spec_Negated, decide_true, decide_false, Bool.not_true, Bool.not_false, Bool.true_and, Bool.false_and, Bool.and_true, Bool.and_false, Bool.true_or, Bool.false_or, Bool.or_false, Bool.or_true, hpn', getRow _ _ hpn, getRow _ _ har, getRow _ _ hbr, har, hbr, har', hbr', hga, hgb, hss, stepG, true_or, or_true, false_or, or_false, or_self, hcm, hcm1, hcm2, hcm3, hcm4, getRow _ _ hcm]
        · by_cases hq : (calcF c rs[a] rs[b]).2 = 0
          all_goals simp (maxSteps := 10000000) (disch := first | assumption | omega) only [cCore, F_spec_StepCore, params, EG, EL, ↓reduceIte, Nat.reduceEqDiff, Nat.reduceAdd, Nat.reduceSub, Nat.reduceMul, Nat.reduceLeDiff, Nat.reduceLT, Int.reduceLT, Int.reduceLE, Int.reduceEq, Int.reduceToNat, reduceCtorEq, FB, ED, FT, cx_spec_StepCore, hw, hw2, hcap, hcap2, and_self, hp, cl_spec_l15Copy, hk, cl_spec_l15Step, run_goF, F_spec_l15Step, cx_spec_l15Step, cl_spec_CoreOk, ho, cl_spec_l01In, sem_spec_l01In, cl_spec_Decode, hD, cl_spec_l15Mem, F_spec_l15Mem, cx_spec_l15Mem, cl_spec_l15Calc, F_spec_l15Calc, cx_spec_l15Calc, cl_spec_ValOk, sem_spec_ValOk, cl_spec_Calc, sem_spec_Calc, cl_spec_Denied, sem_spec_Denied, cl_spec_Negated, sem_spec_Negated, decide_true, decide_false, Bool.not_true, Bool.not_false, Bool.true_and, Bool.false_and, Bool.and_true, Bool.and_false, Bool.true_or, Bool.false_or, Bool.or_false, Bool.or_true, hpn', getRow _ _ hpn, getRow _ _ har, getRow _ _ hbr, har, hbr, har', hbr', hga, hgb, hss, stepG, true_or, or_true, false_or, or_false, or_self, hq]
        · simp (maxSteps := 10000000) (disch := first | assumption | omega) only [cCore, F_spec_StepCore, params, EG, EL, ↓reduceIte, Nat.reduceEqDiff, Nat.reduceAdd, Nat.reduceSub, Nat.reduceMul, Nat.reduceLeDiff, Nat.reduceLT, Int.reduceLT, Int.reduceLE, Int.reduceEq, Int.reduceToNat, reduceCtorEq, FB, ED, FT, cx_spec_StepCore, hw, hw2, hcap, hcap2, and_self, hp, cl_spec_l15Copy, hk, cl_spec_l15Step, run_goF, F_spec_l15Step, cx_spec_l15Step, cl_spec_CoreOk, ho, cl_spec_l01In, sem_spec_l01In, cl_spec_Decode, hD, cl_spec_l15Mem, F_spec_l15Mem, cx_spec_l15Mem, cl_spec_l15Calc, F_spec_l15Calc, cx_spec_l15Calc, cl_spec_ValOk, sem_spec_ValOk, cl_spec_Calc, sem_spec_Calc, cl_spec_Denied, sem_spec_Denied, cl_spec_Negated, sem_spec_Negated, decide_true, decide_false, Bool.not_true, Bool.not_false, Bool.true_and, Bool.false_and, Bool.and_true, Bool.and_false, Bool.true_or, Bool.false_or, Bool.or_false, Bool.or_true, hpn', getRow _ _ hpn, getRow _ _ har, getRow _ _ hbr, har, hbr, har', hbr', hga, hgb, hss, stepG, true_or, or_true, false_or, or_false, or_self]
        · by_cases hq : (negF rs[a]).2 = 0
          all_goals simp (maxSteps := 10000000) (disch := first | assumption | omega) only [cCore, F_spec_StepCore, params, EG, EL, ↓reduceIte, Nat.reduceEqDiff, Nat.reduceAdd, Nat.reduceSub, Nat.reduceMul, Nat.reduceLeDiff, Nat.reduceLT, Int.reduceLT, Int.reduceLE, Int.reduceEq, Int.reduceToNat, reduceCtorEq, FB, ED, FT, cx_spec_StepCore, hw, hw2, hcap, hcap2, and_self, hp, cl_spec_l15Copy, hk, cl_spec_l15Step, run_goF, F_spec_l15Step, cx_spec_l15Step, cl_spec_CoreOk, ho, cl_spec_l01In, sem_spec_l01In, cl_spec_Decode, hD, cl_spec_l15Mem, F_spec_l15Mem, cx_spec_l15Mem, cl_spec_l15Calc, F_spec_l15Calc, cx_spec_l15Calc, cl_spec_ValOk, sem_spec_ValOk, cl_spec_Calc, sem_spec_Calc, cl_spec_Denied, sem_spec_Denied, cl_spec_Negated, sem_spec_Negated, decide_true, decide_false, Bool.not_true, Bool.not_false, Bool.true_and, Bool.false_and, Bool.and_true, Bool.and_false, Bool.true_or, Bool.false_or, Bool.or_false, Bool.or_true, hpn', getRow _ _ hpn, getRow _ _ har, getRow _ _ hbr, har, hbr, har', hbr', hga, hgb, hss, stepG, true_or, or_true, false_or, or_false, or_self, hq]
        · by_cases hq : rs[a] = 0
          · have hs0 : rs.set a 0 = rs := by rw [← hq]; exact hss
            simp (maxSteps := 10000000) (disch := first | assumption | omega) only [cCore, F_spec_StepCore, params, EG, EL, ↓reduceIte, Nat.reduceEqDiff, Nat.reduceAdd, Nat.reduceSub, Nat.reduceMul, Nat.reduceLeDiff, Nat.reduceLT, Int.reduceLT, Int.reduceLE, Int.reduceEq, Int.reduceToNat, reduceCtorEq, FB, ED, FT, cx_spec_StepCore, hw, hw2, hcap, hcap2, and_self, hp, cl_spec_l15Copy, hk, cl_spec_l15Step, run_goF, F_spec_l15Step, cx_spec_l15Step, cl_spec_CoreOk, ho, cl_spec_l01In, sem_spec_l01In, cl_spec_Decode, hD, cl_spec_l15Mem, F_spec_l15Mem, cx_spec_l15Mem, cl_spec_l15Calc, F_spec_l15Calc, cx_spec_l15Calc, cl_spec_ValOk, sem_spec_ValOk, cl_spec_Calc, sem_spec_Calc, cl_spec_Denied, sem_spec_Denied, cl_spec_Negated, sem_spec_Negated, decide_true, decide_false, Bool.not_true, Bool.not_false, Bool.true_and, Bool.false_and, Bool.and_true, Bool.and_false, Bool.true_or, Bool.false_or, Bool.or_false, Bool.or_true, hpn', getRow _ _ hpn, getRow _ _ har, getRow _ _ hbr, har, hbr, har', hbr', hga, hgb, hss, stepG, true_or, or_true, false_or, or_false, or_self, hq, hs0]
          · simp (maxSteps := 10000000) (disch := first | assumption | omega) only [cCore, F_spec_StepCore, params, EG, EL, ↓reduceIte, Nat.reduceEqDiff, Nat.reduceAdd, Nat.reduceSub, Nat.reduceMul, Nat.reduceLeDiff, Nat.reduceLT, Int.reduceLT, Int.reduceLE, Int.reduceEq, Int.reduceToNat, reduceCtorEq, FB, ED, FT, cx_spec_StepCore, hw, hw2, hcap, hcap2, and_self, hp, cl_spec_l15Copy, hk, cl_spec_l15Step, run_goF, F_spec_l15Step, cx_spec_l15Step, cl_spec_CoreOk, ho, cl_spec_l01In, sem_spec_l01In, cl_spec_Decode, hD, cl_spec_l15Mem, F_spec_l15Mem, cx_spec_l15Mem, cl_spec_l15Calc, F_spec_l15Calc, cx_spec_l15Calc, cl_spec_ValOk, sem_spec_ValOk, cl_spec_Calc, sem_spec_Calc, cl_spec_Denied, sem_spec_Denied, cl_spec_Negated, sem_spec_Negated, decide_true, decide_false, Bool.not_true, Bool.not_false, Bool.true_and, Bool.false_and, Bool.and_true, Bool.and_false, Bool.true_or, Bool.false_or, Bool.or_false, Bool.or_true, hpn', getRow _ _ hpn, getRow _ _ har, getRow _ _ hbr, har, hbr, har', hbr', hga, hgb, hss, stepG, true_or, or_true, false_or, or_false, or_self, hq]
        · simp (maxSteps := 10000000) (disch := first | assumption | omega) only [cCore, F_spec_StepCore, params, EG, EL, ↓reduceIte, Nat.reduceEqDiff, Nat.reduceAdd, Nat.reduceSub, Nat.reduceMul, Nat.reduceLeDiff, Nat.reduceLT, Int.reduceLT, Int.reduceLE, Int.reduceEq, Int.reduceToNat, reduceCtorEq, FB, ED, FT, cx_spec_StepCore, hw, hw2, hcap, hcap2, and_self, hp, cl_spec_l15Copy, hk, cl_spec_l15Step, run_goF, F_spec_l15Step, cx_spec_l15Step, cl_spec_CoreOk, ho, cl_spec_l01In, sem_spec_l01In, cl_spec_Decode, hD, cl_spec_l15Mem, F_spec_l15Mem, cx_spec_l15Mem, cl_spec_l15Calc, F_spec_l15Calc, cx_spec_l15Calc, cl_spec_ValOk, sem_spec_ValOk, cl_spec_Calc, sem_spec_Calc, cl_spec_Denied, sem_spec_Denied, cl_spec_Negated, sem_spec_Negated, decide_true, decide_false, Bool.not_true, Bool.not_false, Bool.true_and, Bool.false_and, Bool.and_true, Bool.and_false, Bool.true_or, Bool.false_or, Bool.or_false, Bool.or_true, hpn', getRow _ _ hpn, getRow _ _ har, getRow _ _ hbr, har, hbr, har', hbr', hga, hgb, hss, stepG, true_or, or_true, false_or, or_false, or_self]
        · by_cases hcm : c < m.length
          rotate_left
          · have hcm1 : ¬ (c : Int) ≤ (m.length : Int) - 1 := by omega
            have hcm2 : (m.length : Int) ≤ (c : Int) := by omega
            have hcm3 : m.length ≤ c := by omega
            have hcm4 : ¬ (c : Int) < (m.length : Int) := by omega
            simp (maxSteps := 10000000) (disch := first | assumption | omega) only [cCore, F_spec_StepCore, params, EG, EL, ↓reduceIte, Nat.reduceEqDiff, Nat.reduceAdd, Nat.reduceSub, Nat.reduceMul, Nat.reduceLeDiff, Nat.reduceLT, Int.reduceLT, Int.reduceLE, Int.reduceEq, Int.reduceToNat, reduceCtorEq, FB, ED, FT, cx_spec_StepCore, hw, hw2, hcap, hcap2, and_self, hp, cl_spec_l15Copy, hk, cl_spec_l15Step, run_goF, F_spec_l15Step, cx_spec_l15Step, cl_spec_CoreOk, ho, cl_spec_l01In, sem_spec_l01In, cl_spec_Decode, hD, cl_spec_l15Mem, F_spec_l15Mem, cx_spec_l15Mem, cl_spec_l15Calc, F_spec_l15Calc, cx_spec_l15Calc, cl_spec_ValOk, sem_spec_ValOk, cl_spec_Calc, sem_spec_Calc, cl_spec_Denied, sem_spec_Denied, cl_spec_Negated, sem_spec_Negated, decide_true, decide_false, Bool.not_true, Bool.not_false, Bool.true_and, Bool.false_and, Bool.and_true, Bool.and_false, Bool.true_or, Bool.false_or, Bool.or_false, Bool.or_true, hpn', getRow _ _ hpn, getRow _ _ har, getRow _ _ hbr, har, hbr, har', hbr', hga, hgb, hss, stepG, true_or, or_true, false_or, or_false, or_self, hcm, hcm1, hcm2, hcm3, hcm4]
          · have hcm1 : (c : Int) ≤ (m.length : Int) - 1 := by omega
            have hcm2 : ¬ (m.length : Int) ≤ (c : Int) := by omega
            have hcm3 : ¬ m.length ≤ c := by omega
            have hcm4 : (c : Int) < (m.length : Int) := by omega
            have hgm : m.getD c 0 = m[c] := by simp [hcm]
            cases hv : valOk m[c]
            all_goals simp (maxSteps := 10000000) (disch := first | assumption | omega) only [cCore, F_spec_StepCore, params, EG, EL, ↓reduceIte, Nat.reduceEqDiff, Nat.reduceAdd, Nat.reduceSub, Nat.reduceMul, Nat.reduceLeDiff, Nat.reduceLT, Int.reduceLT, Int.reduceLE, Int.reduceEq, Int.reduceToNat, reduceCtorEq, FB, ED, FT, cx_spec_StepCore, hw, hw2, hcap, hcap2, and_self, hp, cl_spec_l15Copy, hk, cl_spec_l15Step, run_goF, F_spec_l15Step, cx_spec_l15Step, cl_spec_CoreOk, ho, cl_spec_l01In, sem_spec_l01In, cl_spec_Decode, hD, cl_spec_l15Mem, F_spec_l15Mem, cx_spec_l15Mem, cl_spec_l15Calc, F_spec_l15Calc, cx_spec_l15Calc, cl_spec_ValOk, sem_spec_ValOk, cl_spec_Calc, sem_spec_Calc, cl_spec_Denied, sem_spec_Denied, cl_spec_Negated, sem_spec_Negated, decide_true, decide_false, Bool.not_true, Bool.not_false, Bool.true_and, Bool.false_and, Bool.and_true, Bool.and_false, Bool.true_or, Bool.false_or, Bool.or_false, Bool.or_true, hpn', getRow _ _ hpn, getRow _ _ har, getRow _ _ hbr, har, hbr, har', hbr', hga, hgb, hgm, hv, hss, stepG, true_or, or_true, false_or, or_false, or_self, hcm, hcm1, hcm2, hcm3, hcm4, getRow _ _ hcm]
        · simp (maxSteps := 10000000) (disch := first | assumption | omega) only [cCore, F_spec_StepCore, params, EG, EL, ↓reduceIte, Nat.reduceEqDiff, Nat.reduceAdd, Nat.reduceSub, Nat.reduceMul, Nat.reduceLeDiff, Nat.reduceLT, Int.reduceLT, Int.reduceLE, Int.reduceEq, Int.reduceToNat, reduceCtorEq, FB, ED, FT, cx_spec_StepCore, hw, hw2, hcap, hcap2, and_self, hp, cl_spec_l15Copy, hk, cl_spec_l15Step, run_goF, F_spec_l15Step, cx_spec_l15Step, cl_spec_CoreOk, ho, cl_spec_l01In, sem_spec_l01In, cl_spec_Decode, hD, cl_spec_l15Mem, F_spec_l15Mem, cx_spec_l15Mem, cl_spec_l15Calc, F_spec_l15Calc, cx_spec_l15Calc, cl_spec_ValOk, sem_spec_ValOk, cl_spec_Calc, sem_spec_Calc, cl_spec_Denied, sem_spec_Denied, cl_spec_Negated, sem_spec_Negated, decide_true, decide_false, Bool.not_true, Bool.not_false, Bool.true_and, Bool.false_and, Bool.and_true, Bool.and_false, Bool.true_or, Bool.false_or, Bool.or_false, Bool.or_true, hpn', getRow _ _ hpn, getRow _ _ har, getRow _ _ hbr, har, hbr, har', hbr', hga, hgb, hss, stepG, true_or, or_true, false_or, or_false, or_self]
  · have e : stepF ⟨rs, pc, pr⟩ t m = (⟨rs, pc, pr⟩, m, 4) := by
      simp only [stepF]
      rw [if_neg (by rintro ⟨_, h, _⟩; exact hp h)]
    have hD : True := trivial
    cases hc : coreOkF ⟨rs, pc, pr⟩ <;> simp only [hc] at ho
    all_goals simp (maxSteps := 10000000) (disch := first | assumption | omega) only [cCore, F_spec_StepCore, params, EG, EL, ↓reduceIte, Nat.reduceEqDiff, Nat.reduceAdd, Nat.reduceSub, Nat.reduceMul, Nat.reduceLeDiff, Nat.reduceLT, Int.reduceLT, Int.reduceLE, Int.reduceEq, Int.reduceToNat, reduceCtorEq, FB, ED, FT, cx_spec_StepCore, hw, hw2, hcap, hcap2, and_self, hp, cl_spec_l15Copy, hk, cl_spec_l15Step, run_goF, F_spec_l15Step, cx_spec_l15Step, cl_spec_CoreOk, ho, cl_spec_l01In, sem_spec_l01In, cl_spec_Decode, hD, cl_spec_l15Mem, F_spec_l15Mem, cx_spec_l15Mem, cl_spec_l15Calc, F_spec_l15Calc, cx_spec_l15Calc, cl_spec_ValOk, sem_spec_ValOk, cl_spec_Calc, sem_spec_Calc, cl_spec_Denied, sem_spec_Denied, cl_spec_Negated, sem_spec_Negated, decide_true, decide_false, Bool.not_true, Bool.not_false, Bool.true_and, Bool.false_and, Bool.and_true, Bool.and_false, Bool.true_or, Bool.false_or, Bool.or_false, Bool.or_true, e]
set_option maxHeartbeats 4000000 in
theorem sem_impl_StepCore (x : DCore) (t m : List Int) (hr : x.Regs.length ≤ 1048576) (ht : t.length ≤ 1048576) (hm : m.length ≤ 1048576) : S_impl_StepCore.sem [.agg (cCore x), .tree 1 (t.map cI), .tree 1 (m.map cI)] = some (.tup [.agg (cCore (stepF x t m).1), .tree 1 ((stepF x t m).2.1.map cI), .int .i64 (stepF x t m).2.2], []) := by
  obtain ⟨rs, pc, pr⟩ := x
  simp only at hr
  have hk := sem_impl_copyCore ⟨rs, pc, pr⟩ hr
  have ho := sem_impl_CoreOk ⟨rs, pc, pr⟩ (Nat.le_trans hr (by omega))
  have hw : IntKind.wrap .i64 ((t.length : Int) - 1) = (t.length : Int) - 1 := wrapI (by omega) (by omega)
  have hw2 : IntKind.wrap .i64 ((m.length : Int) - 1) = (m.length : Int) - 1 := wrapI (by omega) (by omega)
  have hcap : m.length * 8 ≤ 70368744177664 := by omega
  have hcap2 : rs.length * 8 ≤ 70368744177664 := by omega
  simp only [cCore] at hk ho
  rw [sg_impl_StepCore, sem_go]
  by_cases hp : 0 ≤ pc ∧ pc ≤ (t.length : Int) - 1
  · obtain ⟨p, rfl⟩ : ∃ n : Nat, pc = (n : Int) := ⟨pc.toNat, by omega⟩
    have hpn : p < t.length := by omega
    have hpn' : (p : Int) < (t.length : Int) := by omega
    have hg : t.getD p 0 = t[p] := by simp [hpn]
    cases hd : decOk t[p]
    · have e : stepF ⟨rs, p, pr⟩ t m = (⟨rs, p, pr⟩, m, 4) := by simp only [stepF, Int.toNat_natCast, hg, hd]; simp
      have hD := sem_impl_wordAt t p ht
      simp only [wordR, if_pos hp, Int.toNat_natCast, hg, decR, hd, if_false, Bool.false_eq_true] at hD
      cases hc : coreOkF ⟨rs, p, pr⟩ <;> simp only [hc] at ho
      all_goals simp (maxSteps := 10000000) (disch := first | assumption | omega) only [cCore, F_impl_StepCore, params, EG, EL, ↓reduceIte, Nat.reduceEqDiff, Nat.reduceAdd, Nat.reduceSub, Nat.reduceMul, Nat.reduceLeDiff, Nat.reduceLT, Int.reduceLT, Int.reduceLE, Int.reduceEq, Int.reduceToNat, reduceCtorEq, FB, ED, FT, cx_impl_StepCore, hw, hw2, hcap, hcap2, and_self, hp, cl_impl_copyCore, hk, cl_impl_wordAt, hD, cl_impl_CoreOk, ho, cl_impl_usesMem, sem_impl_usesMem, memF, cl_impl_ValOk, sem_impl_ValOk, cl_impl_Calc, sem_impl_Calc, cl_impl_Denied, sem_impl_Denied, cl_impl_Negated, sem_impl_Negated, decide_true, decide_false, Bool.not_true, Bool.not_false, Bool.true_and, Bool.false_and, Bool.and_true, Bool.and_false, Bool.true_or, Bool.false_or, Bool.or_false, Bool.or_true, e, hpn', getRow _ _ hpn]
    · obtain ⟨op, a, b, c, e1, e2, e3, e4, hop, ha, hb, hcc⟩ := decOk_bounds hd
      have hD := sem_impl_wordAt t p ht
      simp only [wordR, if_pos hp, Int.toNat_natCast, hg, decR, hd, if_true, e1, e2, e3, e4] at hD
      cases hc : coreOkF ⟨rs, p, pr⟩ <;> simp only [hc] at ho
      · have e : stepF ⟨rs, p, pr⟩ t m = (⟨rs, p, pr⟩, m, 4) := by simp only [stepF, hc]; simp
        simp (maxSteps := 10000000) (disch := first | assumption | omega) only [cCore, F_impl_StepCore, params, EG, EL, ↓reduceIte, Nat.reduceEqDiff, Nat.reduceAdd, Nat.reduceSub, Nat.reduceMul, Nat.reduceLeDiff, Nat.reduceLT, Int.reduceLT, Int.reduceLE, Int.reduceEq, Int.reduceToNat, reduceCtorEq, FB, ED, FT, cx_impl_StepCore, hw, hw2, hcap, hcap2, and_self, hp, cl_impl_copyCore, hk, cl_impl_wordAt, hD, cl_impl_CoreOk, ho, cl_impl_usesMem, sem_impl_usesMem, memF, cl_impl_ValOk, sem_impl_ValOk, cl_impl_Calc, sem_impl_Calc, cl_impl_Denied, sem_impl_Denied, cl_impl_Negated, sem_impl_Negated, decide_true, decide_false, Bool.not_true, Bool.not_false, Bool.true_and, Bool.false_and, Bool.and_true, Bool.and_false, Bool.true_or, Bool.false_or, Bool.or_false, Bool.or_true, e, hpn', getRow _ _ hpn]
      · obtain ⟨h8, h0⟩ := coreOk_len hc
        simp only at h8 h0
        have har : a < rs.length := by omega
        have hbr : b < rs.length := by omega
        have har' : (a : Int) < (rs.length : Int) := by omega
        have hbr' : (b : Int) < (rs.length : Int) := by omega
        have hga : rs.getD a 0 = rs[a] := by simp [har]
        have hgb : rs.getD b 0 = rs[b] := by simp [hbr]
        have hss : rs.set a rs[a] = rs := List.set_getElem_self ..
        have e : stepF ⟨rs, p, pr⟩ t m = stepG ⟨rs, p, pr⟩ m op a b c := by
          simp only [stepF, Int.toNat_natCast, hg, hd, hc, e1, e2, e3, e4]
          rw [if_pos ⟨trivial, hp, trivial⟩]
        rw [e]
        have : op = 1 ∨ op = 2 ∨ op = 3 ∨ op = 4 ∨ op = 5 ∨ op = 6 ∨ op = 7 ∨ op = 8 ∨ op = 9 ∨ op = 10 := by omega
        rcases this with rfl | rfl | rfl | rfl | rfl | rfl | rfl | rfl | rfl | rfl
        · simp (maxSteps := 10000000) (disch := first | assumption | omega) only [cCore, F_impl_StepCore, params, EG, EL, ↓reduceIte, Nat.reduceEqDiff, Nat.reduceAdd, Nat.reduceSub, Nat.reduceMul, Nat.reduceLeDiff, Nat.reduceLT, Int.reduceLT, Int.reduceLE, Int.reduceEq, Int.reduceToNat, reduceCtorEq, FB, ED, FT, cx_impl_StepCore, hw, hw2, hcap, hcap2, and_self, hp, cl_impl_copyCore, hk, cl_impl_wordAt, hD, cl_impl_CoreOk, ho, cl_impl_usesMem, sem_impl_usesMem, memF, cl_impl_ValOk, sem_impl_ValOk, cl_impl_Calc, sem_impl_Calc, cl_impl_Denied, sem_impl_Denied, cl_impl_Negated, sem_impl_Negated, decide_true, decide_false, Bool.not_true, Bool.not_false, Bool.true_and, Bool.false_and, Bool.and_true, Bool.and_false, Bool.true_or, Bool.false_or, Bool.or_false, Bool.or_true, hpn', getRow _ _ hpn, getRow _ _ har, getRow _ _ hbr, har, hbr, har', hbr', hga, hgb, hss, stepG, true_or, or_true, false_or, or_false, or_self]
        · by_cases hcm : c < m.length
          rotate_left
          · have hcm1 : ¬ (c : Int) ≤ (m.length : Int) - 1 := by omega
            have hcm2 : (m.length : Int) ≤ (c : Int) := by omega
            have hcm3 : m.length ≤ c := by omega
            have hcm4 : ¬ (c : Int) < (m.length : Int) := by omega
            simp (maxSteps := 10000000) (disch := first | assumption | omega) only [cCore, F_impl_StepCore, params, EG, EL, ↓reduceIte, Nat.reduceEqDiff, Nat.reduceAdd, Nat.reduceSub, Nat.reduceMul, Nat.reduceLeDiff, Nat.reduceLT, Int.reduceLT, Int.reduceLE, Int.reduceEq, Int.reduceToNat, reduceCtorEq, FB, ED, FT, cx_impl_StepCore, hw, hw2, hcap, hcap2, and_self, hp, cl_impl_copyCore, hk, cl_impl_wordAt, hD, cl_impl_CoreOk, ho, cl_impl_usesMem, sem_impl_usesMem, memF, cl_impl_ValOk, sem_impl_ValOk, cl_impl_Calc, sem_impl_Calc, cl_impl_Denied, sem_impl_Denied, cl_impl_Negated, sem_impl_Negated, decide_true, decide_false, Bool.not_true, Bool.not_false, Bool.true_and, Bool.false_and, Bool.and_true, Bool.and_false, Bool.true_or, Bool.false_or, Bool.or_false, Bool.or_true, hpn', getRow _ _ hpn, getRow _ _ har, getRow _ _ hbr, har, hbr, har', hbr', hga, hgb, hss, stepG, true_or, or_true, false_or, or_false, or_self, hcm, hcm1, hcm2, hcm3, hcm4]
          · have hcm1 : (c : Int) ≤ (m.length : Int) - 1 := by omega
            have hcm2 : ¬ (m.length : Int) ≤ (c : Int) := by omega
            have hcm3 : ¬ m.length ≤ c := by omega
            have hcm4 : (c : Int) < (m.length : Int) := by omega
            have hgm : m.getD c 0 = m[c] := by simp [hcm]
            cases hv : valOk m[c]
            all_goals simp (maxSteps := 10000000) (disch := first | assumption | omega) only [cCore, F_impl_StepCore, params, EG, EL, ↓reduceIte, Nat.reduceEqDiff, Nat.reduceAdd, Nat.reduceSub, Nat.reduceMul, Nat.reduceLeDiff, Nat.reduceLT, Int.reduceLT, Int.reduceLE, Int.reduceEq, Int.reduceToNat, reduceCtorEq, FB, ED, FT, cx_impl_StepCore, hw, hw2, hcap, hcap2, and_self, hp, cl_impl_copyCore, hk, cl_impl_wordAt, hD, cl_impl_CoreOk, ho, cl_impl_usesMem, sem_impl_usesMem, memF, cl_impl_ValOk, sem_impl_ValOk, cl_impl_Calc, sem_impl_Calc, cl_impl_Denied, sem_impl_Denied, cl_impl_Negated, sem_impl_Negated, decide_true, decide_false, Bool.not_true, Bool.not_false, Bool.true_and, Bool.false_and, Bool.and_true, Bool.and_false, Bool.true_or, Bool.false_or, Bool.or_false, Bool.or_true, hpn', getRow _ _ hpn, getRow _ _ har, getRow _ _ hbr, har, hbr, har', hbr', hga, hgb, hgm, hv, hss, stepG, true_or, or_true, false_or, or_false, or_self, hcm, hcm1, hcm2, hcm3, hcm4, getRow _ _ hcm]
        · by_cases hcm : c < m.length
          rotate_left
          · have hcm1 : ¬ (c : Int) ≤ (m.length : Int) - 1 := by omega
            have hcm2 : (m.length : Int) ≤ (c : Int) := by omega
            have hcm3 : m.length ≤ c := by omega
            have hcm4 : ¬ (c : Int) < (m.length : Int) := by omega
            simp (maxSteps := 10000000) (disch := first | assumption | omega) only [cCore, F_impl_StepCore, params, EG, EL, ↓reduceIte, Nat.reduceEqDiff, Nat.reduceAdd, Nat.reduceSub, Nat.reduceMul, Nat.reduceLeDiff, Nat.reduceLT, Int.reduceLT, Int.reduceLE, Int.reduceEq, Int.reduceToNat, reduceCtorEq, FB, ED, FT, cx_impl_StepCore, hw, hw2, hcap, hcap2, and_self, hp, cl_impl_copyCore, hk, cl_impl_wordAt, hD, cl_impl_CoreOk, ho, cl_impl_usesMem, sem_impl_usesMem, memF, cl_impl_ValOk, sem_impl_ValOk, cl_impl_Calc, sem_impl_Calc, cl_impl_Denied, sem_impl_Denied, cl_impl_Negated, sem_impl_Negated, decide_true, decide_false, Bool.not_true, Bool.not_false, Bool.true_and, Bool.false_and, Bool.and_true, Bool.and_false, Bool.true_or, Bool.false_or, Bool.or_false, Bool.or_true, hpn', getRow _ _ hpn, getRow _ _ har, getRow _ _ hbr, har, hbr, har', hbr', hga, hgb, hss, stepG, true_or, or_true, false_or, or_false, or_self, hcm, hcm1, hcm2, hcm3, hcm4]
          · have hcm1 : (c : Int) ≤ (m.length : Int) - 1 := by omega
            have hcm2 : ¬ (m.length : Int) ≤ (c : Int) := by omega
            have hcm3 : ¬ m.length ≤ c := by omega
            have hcm4 : (c : Int) < (m.length : Int) := by omega
            have hgm : m.getD c 0 = m[c] := by simp [hcm]
            simp (maxSteps := 10000000) (disch := first | assumption | omega) only [cCore, F_impl_StepCore, params, EG, EL, ↓reduceIte, Nat.reduceEqDiff, Nat.reduceAdd, Nat.reduceSub, Nat.reduceMul, Nat.reduceLeDiff, Nat.reduceLT, Int.reduceLT, Int.reduceLE, Int.reduceEq, Int.reduceToNat, reduceCtorEq, FB, ED, FT, cx_impl_StepCore, hw, hw2, hcap, hcap2, and_self, hp, cl_impl_copyCore, hk, cl_impl_wordAt, hD, cl_impl_CoreOk, ho, cl_impl_usesMem, sem_impl_usesMem, memF, cl_impl_ValOk, sem_impl_ValOk, cl_impl_Calc, sem_impl_Calc, cl_impl_Denied, sem_impl_Denied, cl_impl_Negated, sem_impl_Negated, decide_true, decide_false, Bool.not_true, Bool.not_false, Bool.true_and, Bool.false_and, Bool.and_true, Bool.and_false, Bool.true_or, Bool.false_or, Bool.or_false, Bool.or_true, hpn', getRow _ _ hpn, getRow _ _ har, getRow _ _ hbr, har, hbr, har', hbr', hga, hgb, hss, stepG, true_or, or_true, false_or, or_false, or_self, hcm, hcm1, hcm2, hcm3, hcm4, getRow _ _ hcm]
        · by_cases hq : (calcF c rs[a] rs[b]).2 = 0
          all_goals simp (maxSteps := 10000000) (disch := first | assumption | omega) only [cCore, F_impl_StepCore, params, EG, EL, ↓reduceIte, Nat.reduceEqDiff, Nat.reduceAdd, Nat.reduceSub, Nat.reduceMul, Nat.reduceLeDiff, Nat.reduceLT, Int.reduceLT, Int.reduceLE, Int.reduceEq, Int.reduceToNat, reduceCtorEq, FB, ED, FT, cx_impl_StepCore, hw, hw2, hcap, hcap2, and_self, hp, cl_impl_copyCore, hk, cl_impl_wordAt, hD, cl_impl_CoreOk, ho, cl_impl_usesMem, sem_impl_usesMem, memF, cl_impl_ValOk, sem_impl_ValOk, cl_impl_Calc, sem_impl_Calc, cl_impl_Denied, sem_impl_Denied, cl_impl_Negated, sem_impl_Negated, decide_true, decide_false, Bool.not_true, Bool.not_false, Bool.true_and, Bool.false_and, Bool.and_true, Bool.and_false, Bool.true_or, Bool.false_or, Bool.or_false, Bool.or_true, hpn', getRow _ _ hpn, getRow _ _ har, getRow _ _ hbr, har, hbr, har', hbr', hga, hgb, hss, stepG, true_or, or_true, false_or, or_false, or_self, hq]
        · simp (maxSteps := 10000000) (disch := first | assumption | omega) only [cCore, F_impl_StepCore, params, EG, EL, ↓reduceIte, Nat.reduceEqDiff, Nat.reduceAdd, Nat.reduceSub, Nat.reduceMul, Nat.reduceLeDiff, Nat.reduceLT, Int.reduceLT, Int.reduceLE, Int.reduceEq, Int.reduceToNat, reduceCtorEq, FB, ED, FT, cx_impl_StepCore, hw, hw2, hcap, hcap2, and_self, hp, cl_impl_copyCore, hk, cl_impl_wordAt, hD, cl_impl_CoreOk, ho, cl_impl_usesMem, sem_impl_usesMem, memF, cl_impl_ValOk, sem_impl_ValOk, cl_impl_Calc, sem_impl_Calc, cl_impl_Denied, sem_impl_Denied, cl_impl_Negated, sem_impl_Negated, decide_true, decide_false, Bool.not_true, Bool.not_false, Bool.true_and, Bool.false_and, Bool.and_true, Bool.and_false, Bool.true_or, Bool.false_or, Bool.or_false, Bool.or_true, hpn', getRow _ _ hpn, getRow _ _ har, getRow _ _ hbr, har, hbr, har', hbr', hga, hgb, hss, stepG, true_or, or_true, false_or, or_false, or_self]
        · by_cases hq : (negF rs[a]).2 = 0
          all_goals simp (maxSteps := 10000000) (disch := first | assumption | omega) only [cCore, F_impl_StepCore, params, EG, EL, ↓reduceIte, Nat.reduceEqDiff, Nat.reduceAdd, Nat.reduceSub, Nat.reduceMul, Nat.reduceLeDiff, Nat.reduceLT, Int.reduceLT, Int.reduceLE, Int.reduceEq, Int.reduceToNat, reduceCtorEq, FB, ED, FT, cx_impl_StepCore, hw, hw2, hcap, hcap2, and_self, hp, cl_impl_copyCore, hk, cl_impl_wordAt, hD, cl_impl_CoreOk, ho, cl_impl_usesMem, sem_impl_usesMem, memF, cl_impl_ValOk, sem_impl_ValOk, cl_impl_Calc, sem_impl_Calc, cl_impl_Denied, sem_impl_Denied, cl_impl_Negated, sem_impl_Negated, decide_true, decide_false, Bool.not_true, Bool.not_false, Bool.true_and, Bool.false_and, Bool.and_true, Bool.and_false, Bool.true_or, Bool.false_or, Bool.or_false, Bool.or_true, hpn', getRow _ _ hpn, getRow _ _ har, getRow _ _ hbr, har, hbr, har', hbr', hga, hgb, hss, stepG, true_or, or_true, false_or, or_false, or_self, hq]
        · by_cases hq : rs[a] = 0
          · have hs0 : rs.set a 0 = rs := by rw [← hq]; exact hss
            simp (maxSteps := 10000000) (disch := first | assumption | omega) only [cCore, F_impl_StepCore, params, EG, EL, ↓reduceIte, Nat.reduceEqDiff, Nat.reduceAdd, Nat.reduceSub, Nat.reduceMul, Nat.reduceLeDiff, Nat.reduceLT, Int.reduceLT, Int.reduceLE, Int.reduceEq, Int.reduceToNat, reduceCtorEq, FB, ED, FT, cx_impl_StepCore, hw, hw2, hcap, hcap2, and_self, hp, cl_impl_copyCore, hk, cl_impl_wordAt, hD, cl_impl_CoreOk, ho, cl_impl_usesMem, sem_impl_usesMem, memF, cl_impl_ValOk, sem_impl_ValOk, cl_impl_Calc, sem_impl_Calc, cl_impl_Denied, sem_impl_Denied, cl_impl_Negated, sem_impl_Negated, decide_true, decide_false, Bool.not_true, Bool.not_false, Bool.true_and, Bool.false_and, Bool.and_true, Bool.and_false, Bool.true_or, Bool.false_or, Bool.or_false, Bool.or_true, hpn', getRow _ _ hpn, getRow _ _ har, getRow _ _ hbr, har, hbr, har', hbr', hga, hgb, hss, stepG, true_or, or_true, false_or, or_false, or_self, hq, hs0]
          · simp (maxSteps := 10000000) (disch := first | assumption | omega) only [cCore, F_impl_StepCore, params, EG, EL, ↓reduceIte, Nat.reduceEqDiff, Nat.reduceAdd, Nat.reduceSub, Nat.reduceMul, Nat.reduceLeDiff, Nat.reduceLT, Int.reduceLT, Int.reduceLE, Int.reduceEq, Int.reduceToNat, reduceCtorEq, FB, ED, FT, cx_impl_StepCore, hw, hw2, hcap, hcap2, and_self, hp, cl_impl_copyCore, hk, cl_impl_wordAt, hD, cl_impl_CoreOk, ho, cl_impl_usesMem, sem_impl_usesMem, memF, cl_impl_ValOk, sem_impl_ValOk, cl_impl_Calc, sem_impl_Calc, cl_impl_Denied, sem_impl_Denied, cl_impl_Negated, sem_impl_Negated, decide_true, decide_false, Bool.not_true, Bool.not_false, Bool.true_and, Bool.false_and, Bool.and_true, Bool.and_false, Bool.true_or, Bool.false_or, Bool.or_false, Bool.or_true, hpn', getRow _ _ hpn, getRow _ _ har, getRow _ _ hbr, har, hbr, har', hbr', hga, hgb, hss, stepG, true_or, or_true, false_or, or_false, or_self, hq]
        · simp (maxSteps := 10000000) (disch := first | assumption | omega) only [cCore, F_impl_StepCore, params, EG, EL, ↓reduceIte, Nat.reduceEqDiff, Nat.reduceAdd, Nat.reduceSub, Nat.reduceMul, Nat.reduceLeDiff, Nat.reduceLT, Int.reduceLT, Int.reduceLE, Int.reduceEq, Int.reduceToNat, reduceCtorEq, FB, ED, FT, cx_impl_StepCore, hw, hw2, hcap, hcap2, and_self, hp, cl_impl_copyCore, hk, cl_impl_wordAt, hD, cl_impl_CoreOk, ho, cl_impl_usesMem, sem_impl_usesMem, memF, cl_impl_ValOk, sem_impl_ValOk, cl_impl_Calc, sem_impl_Calc, cl_impl_Denied, sem_impl_Denied, cl_impl_Negated, sem_impl_Negated, decide_true, decide_false, Bool.not_true, Bool.not_false, Bool.true_and, Bool.false_and, Bool.and_true, Bool.and_false, Bool.true_or, Bool.false_or, Bool.or_false, Bool.or_true, hpn', getRow _ _ hpn, getRow _ _ har, getRow _ _ hbr, har, hbr, har', hbr', hga, hgb, hss, stepG, true_or, or_true, false_or, or_false, or_self]
        · by_cases hcm : c < m.length
          rotate_left
          · have hcm1 : ¬ (c : Int) ≤ (m.length : Int) - 1 := by omega
            have hcm2 : (m.length : Int) ≤ (c : Int) := by omega
            have hcm3 : m.length ≤ c := by omega
            have hcm4 : ¬ (c : Int) < (m.length : Int) := by omega
            simp (maxSteps := 10000000) (disch := first | assumption | omega) only [cCore, F_impl_StepCore, params, EG, EL, ↓reduceIte, Nat.reduceEqDiff, Nat.reduceAdd, Nat.reduceSub, Nat.reduceMul, Nat.reduceLeDiff, Nat.reduceLT, Int.reduceLT, Int.reduceLE, Int.reduceEq, Int.reduceToNat, reduceCtorEq, FB, ED, FT, cx_impl_StepCore, hw, hw2, hcap, hcap2, and_self, hp, cl_impl_copyCore, hk, cl_impl_wordAt, hD, cl_impl_CoreOk, ho, cl_impl_usesMem, sem_impl_usesMem, memF, cl_impl_ValOk, sem_impl_ValOk, cl_impl_Calc, sem_impl_Calc, cl_impl_Denied, sem_impl_Denied, cl_impl_Negated, sem_impl_Negated, decide_true, decide_false, Bool.not_true, Bool.not_false, Bool.true_and, Bool.false_and, Bool.and_true, Bool.and_false, Bool.true_or, Bool.false_or, Bool.or_false, Bool.or_true, hpn', getRow _ _ hpn, getRow _ _ har, getRow _ _ hbr, har, hbr, har', hbr', hga, hgb, hss, stepG, true_or, or_true, false_or, or_false, or_self, hcm, hcm1, hcm2, hcm3, hcm4]
          · have hcm1 : (c : Int) ≤ (m.length : Int) - 1 := by omega
            have hcm2 : ¬ (m.length : Int) ≤ (c : Int) := by omega
            have hcm3 : ¬ m.length ≤ c := by omega
            have hcm4 : (c : Int) < (m.length : Int) := by omega
            have hgm : m.getD c 0 = m[c] := by simp [hcm]
            cases hv : valOk m[c]
            all_goals simp (maxSteps := 10000000) (disch := first | assumption | omega) only [cCore, F_impl_StepCore, params, EG, EL, ↓reduceIte, Nat.reduceEqDiff, Nat.reduceAdd, Nat.reduceSub, Nat.reduceMul, Nat.reduceLeDiff, Nat.reduceLT, Int.reduceLT, Int.reduceLE, Int.reduceEq, Int.reduceToNat, reduceCtorEq, FB, ED, FT, cx_impl_StepCore, hw, hw2, hcap, hcap2, and_self, hp, cl_impl_copyCore, hk, cl_impl_wordAt, hD, cl_impl_CoreOk, ho, cl_impl_usesMem, sem_impl_usesMem, memF, cl_impl_ValOk, sem_impl_ValOk, cl_impl_Calc, sem_impl_Calc, cl_impl_Denied, sem_impl_Denied, cl_impl_Negated, sem_impl_Negated, decide_true, decide_false, Bool.not_true, Bool.not_false, Bool.true_and, Bool.false_and, Bool.and_true, Bool.and_false, Bool.true_or, Bool.false_or, Bool.or_false, Bool.or_true, hpn', getRow _ _ hpn, getRow _ _ har, getRow _ _ hbr, har, hbr, har', hbr', hga, hgb, hgm, hv, hss, stepG, true_or, or_true, false_or, or_false, or_self, hcm, hcm1, hcm2, hcm3, hcm4, getRow _ _ hcm]
        · simp (maxSteps := 10000000) (disch := first | assumption | omega) only [cCore, F_impl_StepCore, params, EG, EL, ↓reduceIte, Nat.reduceEqDiff, Nat.reduceAdd, Nat.reduceSub, Nat.reduceMul, Nat.reduceLeDiff, Nat.reduceLT, Int.reduceLT, Int.reduceLE, Int.reduceEq, Int.reduceToNat, reduceCtorEq, FB, ED, FT, cx_impl_StepCore, hw, hw2, hcap, hcap2, and_self, hp, cl_impl_copyCore, hk, cl_impl_wordAt, hD, cl_impl_CoreOk, ho, cl_impl_usesMem, sem_impl_usesMem, memF, cl_impl_ValOk, sem_impl_ValOk, cl_impl_Calc, sem_impl_Calc, cl_impl_Denied, sem_impl_Denied, cl_impl_Negated, sem_impl_Negated, decide_true, decide_false, Bool.not_true, Bool.not_false, Bool.true_and, Bool.false_and, Bool.and_true, Bool.and_false, Bool.true_or, Bool.false_or, Bool.or_false, Bool.or_true, hpn', getRow _ _ hpn, getRow _ _ har, getRow _ _ hbr, har, hbr, har', hbr', hga, hgb, hss, stepG, true_or, or_true, false_or, or_false, or_self]
  · have e : stepF ⟨rs, pc, pr⟩ t m = (⟨rs, pc, pr⟩, m, 4) := by
      simp only [stepF]
      rw [if_neg (by rintro ⟨_, h, _⟩; exact hp h)]
    have hD := sem_impl_wordAt t pc ht
    simp only [wordR, if_neg hp] at hD
    cases hc : coreOkF ⟨rs, pc, pr⟩ <;> simp only [hc] at ho
    all_goals simp (maxSteps := 10000000) (disch := first | assumption | omega) only [cCore, F_impl_StepCore, params, EG, EL, ↓reduceIte, Nat.reduceEqDiff, Nat.reduceAdd, Nat.reduceSub, Nat.reduceMul, Nat.reduceLeDiff, Nat.reduceLT, Int.reduceLT, Int.reduceLE, Int.reduceEq, Int.reduceToNat, reduceCtorEq, FB, ED, FT, cx_impl_StepCore, hw, hw2, hcap, hcap2, and_self, hp, cl_impl_copyCore, hk, cl_impl_wordAt, hD, cl_impl_CoreOk, ho, cl_impl_usesMem, sem_impl_usesMem, memF, cl_impl_ValOk, sem_impl_ValOk, cl_impl_Calc, sem_impl_Calc, cl_impl_Denied, sem_impl_Denied, cl_impl_Negated, sem_impl_Negated, decide_true, decide_false, Bool.not_true, Bool.not_false, Bool.true_and, Bool.false_and, Bool.and_true, Bool.and_false, Bool.true_or, Bool.false_or, Bool.or_false, Bool.or_true, e]
theorem stepG_len {x : DCore} {m : List Int} {op : Int} {a b c : Nat} : (stepG x m op a b c).1.Regs.length = x.Regs.length ∧ (stepG x m op a b c).2.1.length = m.length := by
  unfold stepG
  dsimp only
  repeat' split
  all_goals first | exact ⟨rfl, rfl⟩ | (simp only [List.length_set]; exact ⟨rfl, rfl⟩) | simp
theorem stepF_regs {x : DCore} {t m : List Int} : (stepF x t m).1.Regs.length = x.Regs.length := by
  unfold stepF; split
  · exact stepG_len.1
  · rfl
theorem stepF_mem {x : DCore} {t m : List Int} : (stepF x t m).2.1.length = m.length := by
  unfold stepF; split
  · exact stepG_len.2
  · rfl
set_option maxHeartbeats 4000000 in
theorem law_FnExactStepCore (x : DCore) (g_x : gdCore x) (t : List (Int)) (g_t : t.length ≤ 140737488351232 ∧ ∀ y ∈ t, i64 y) (m : List (Int)) (g_m : m.length ≤ 140737488351232 ∧ ∀ y ∈ m, i64 y) : tru F_laws_FnExactStepCore.res (go X_laws_FnExactStepCore 0 [.c F_laws_FnExactStepCore.body] ⟨params 0 [.agg (cCore x), .tree 1 (t.map cI), .tree 1 (m.map cI)], []⟩) := by
  obtain ⟨g_t, g_te⟩ := g_t
  obtain ⟨g_m, g_me⟩ := g_m
  by_cases s0 : (1048576 : Int) < (t.length : Int)
  · simp (maxSteps := 10000000) (disch := first | assumption | omega) only [F_laws_FnExactStepCore, params, EG, EL, ↓reduceIte, Nat.reduceEqDiff, Nat.reduceAdd, Nat.reduceSub, Nat.reduceMul, Nat.reduceLeDiff, Nat.reduceLT, Int.reduceLT, Int.reduceLE, Int.reduceEq, Int.reduceToNat, reduceCtorEq, ED, FB, FT, tru_ret, tru_ite, cx_laws_FnExactStepCore, s0]
  have q0_0 := tot_ct1 t
  by_cases s1 : (1048576 : Int) < (m.length : Int)
  · simp (maxSteps := 10000000) (disch := first | assumption | omega) only [F_laws_FnExactStepCore, params, EG, EL, ↓reduceIte, Nat.reduceEqDiff, Nat.reduceAdd, Nat.reduceSub, Nat.reduceMul, Nat.reduceLeDiff, Nat.reduceLT, Int.reduceLT, Int.reduceLE, Int.reduceEq, Int.reduceToNat, reduceCtorEq, ED, FB, FT, tru_ret, tru_ite, cx_laws_FnExactStepCore, s0, s1]
  have q1_0 := tot_ct1 m
  rcases lft_or (1048576) (wtCore x) with ⟨e2, f2⟩ | ⟨e2, f2⟩
  · simp (maxSteps := 10000000) (disch := first | assumption | omega) only [F_laws_FnExactStepCore, params, EG, EL, ↓reduceIte, Nat.reduceEqDiff, Nat.reduceAdd, Nat.reduceSub, Nat.reduceMul, Nat.reduceLeDiff, Nat.reduceLT, Int.reduceLT, Int.reduceLE, Int.reduceEq, Int.reduceToNat, reduceCtorEq, ED, FB, FT, tru_ret, tru_ite, cx_laws_FnExactStepCore, s0, s1, e2, neg1_lt, cl_laws_szCore, sem_laws_szCore, cl_laws_toCore, sem_laws_toCore, cl_laws_toIntS, sem_laws_toIntS, cl_spec_StepCore, sem_spec_StepCore, cl_impl_StepCore, sem_impl_StepCore, cl_laws_eqCore, sem_laws_eqCore, cl_laws_eqIntS, sem_laws_eqIntS, cl_laws_markCore, run_goF, F_laws_markCore, cx_laws_markCore, cl_laws_markIntS, sem_laws_markIntS, cl_laws_heldCore, sem_laws_heldCore, cl_laws_heldIntS, sem_laws_heldIntS]
  have c2 : ¬ 1048576 - ((wtCore x : Nat) : Int) < 0 := by omega
  have w2 := f2
  simp only [wtCore] at w2
  have q2_0 := tot_ct1 x.Regs
  have hr0 : wtCore (stepF x t m).1 ≤ 1073741824 := by
    have ht2 : t.length ≤ 1048576 := by omega
    rw [show wtCore (stepF x t m).1 = (stepF x t m).1.Regs.length from rfl, stepF_regs]
    omega
  have hu0 := hr0
  simp only [wtCore] at hu0
  have r0_0 := tot_ct1 (stepF x t m).1.Regs
  have rc0 : cwCore (stepF x t m).1 = tot ct1 (stepF x t m).1.Regs := rfl
  have hr1 : (stepF x t m).2.1.length ≤ 1073741824 := by
    rw [stepF_mem]; omega
  have r1_0 := tot_ct1 (stepF x t m).2.1
  simp (maxSteps := 10000000) (disch := first | assumption | omega) only [F_laws_FnExactStepCore, params, EG, EL, ↓reduceIte, Nat.reduceEqDiff, Nat.reduceAdd, Nat.reduceSub, Nat.reduceMul, Nat.reduceLeDiff, Nat.reduceLT, Int.reduceLT, Int.reduceLE, Int.reduceEq, Int.reduceToNat, reduceCtorEq, ED, FB, FT, tru_ret, tru_ite, cx_laws_FnExactStepCore, s0, s1, e2, c2, cl_laws_szCore, sem_laws_szCore, cl_laws_toCore, sem_laws_toCore, cl_laws_toIntS, sem_laws_toIntS, cl_spec_StepCore, sem_spec_StepCore, cl_impl_StepCore, sem_impl_StepCore, cl_laws_eqCore, sem_laws_eqCore, cl_laws_eqIntS, sem_laws_eqIntS, cl_laws_markCore, run_goF, F_laws_markCore, cx_laws_markCore, cl_laws_markIntS, sem_laws_markIntS, cl_laws_heldCore, sem_laws_heldCore, cl_laws_heldIntS, sem_laws_heldIntS]
  repeat (first | rw [if_neg (by omega)] | rw [if_pos (by omega)])
  try trivial

end Go.Proofs.Ythdbglhdadinkaa.AI
