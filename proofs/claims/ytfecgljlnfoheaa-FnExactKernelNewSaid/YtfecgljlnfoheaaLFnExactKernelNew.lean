/- What these functions give, and that the law FnExactKernelNew gives true. -/
import Derived.Test.YtfecgljlnfoheaaCFnExactKernelNew
namespace Go.Proofs.Ytfecgljlnfoheaa.AI
open Go.Proofs
set_option linter.all false
set_option maxRecDepth 100000
structure DNode where
  Kind : Int
  Num : Int
  Name : ByteArray
  More : ByteArray
  To : ByteArray
  Kids : List (Int)
abbrev cNode (x : DNode) : List AV := [.int .i64 x.Kind, .int .i64 x.Num, .str x.Name, .str x.More, .str x.To, .tree 1 (x.Kids.map cI)]
def wtNode (x : DNode) : Nat := x.Name.size + x.More.size + x.To.size + x.Kids.length
def gdNode (x : DNode) : Prop := i64 x.Kind ∧ i64 x.Num ∧ gdS x.Name ∧ gdS x.More ∧ gdS x.To ∧ (x.Kids.length ≤ 140737488351232 ∧ ∀ y ∈ x.Kids, i64 y)
def mkNode (x : DNode) (k : Int) : DNode := { Kind := k, Num := (k + 1), Name := (mT ((k + 1) + 1)), More := (mT (((k + 1) + 1) + 1)), To := (mT ((((k + 1) + 1) + 1) + 1)), Kids := mkL mkI ct1 x.Kids (((((k + 1) + 1) + 1) + 1) + 1) }
def ctNode (x : DNode) : Nat := 1 + 1 + 1 + 1 + 1 + tot ct1 x.Kids
theorem ctle_Node (x : DNode) : ctNode x ≤ 5 * (1 + wtNode x) := by
  have h0 := tot_ct1 x.Kids
  unfold ctNode
  simp only [wtNode] at *
  omega
theorem tctle_Node (xs : List DNode) : tot ctNode xs ≤ 5 * (xs.length + tot wtNode xs) := tot_ct_le ctle_Node xs
def mwNode (x : DNode) (k : Int) : DNode := { Kind := x.Kind, Num := x.Num, Name := x.Name, More := x.More, To := x.To, Kids := mkL mkI ct1 x.Kids k }
def cwNode (x : DNode) : Nat := tot ct1 x.Kids
theorem set_cNode {xs : List DNode} {n : Nat} {x : DNode} : (xs.map cNode).set n [.int .i64 x.Kind, .int .i64 x.Num, .str x.Name, .str x.More, .str x.To, .tree 1 (x.Kids.map cI)] = (xs.set n x).map cNode := by rw [List.map_set]
theorem snoc_cNode {xs : List DNode} {x : DNode} : xs.map cNode ++ [[.int .i64 x.Kind, .int .i64 x.Num, .str x.Name, .str x.More, .str x.To, .tree 1 (x.Kids.map cI)]] = (xs ++ [x]).map cNode := by simp
theorem solid_cNode {xs : List DNode} : solid (xs.map cNode) = true := solid_map fun _ => rfl
structure DEntry where
  Name : ByteArray
  Param : ByteArray
  Body : Int
abbrev cEntry (x : DEntry) : List AV := [.str x.Name, .str x.Param, .int .i64 x.Body]
def wtEntry (x : DEntry) : Nat := x.Name.size + x.Param.size
def gdEntry (x : DEntry) : Prop := gdS x.Name ∧ gdS x.Param ∧ i64 x.Body
def mkEntry (x : DEntry) (k : Int) : DEntry := { Name := (mT k), Param := (mT (k + 1)), Body := ((k + 1) + 1) }
def ctEntry (x : DEntry) : Nat := 1 + 1 + 1
theorem ctle_Entry (x : DEntry) : ctEntry x ≤ 3 * (1 + wtEntry x) := by
  unfold ctEntry
  simp only [wtEntry] at *
  omega
theorem tctle_Entry (xs : List DEntry) : tot ctEntry xs ≤ 3 * (xs.length + tot wtEntry xs) := tot_ct_le ctle_Entry xs
theorem flat_cEntry {xs : List DEntry} : flat (xs.map cEntry) = true := flat_map fun _ => rfl
theorem set_cEntry {xs : List DEntry} {n : Nat} {x : DEntry} : (xs.map cEntry).set n [.str x.Name, .str x.Param, .int .i64 x.Body] = (xs.set n x).map cEntry := by rw [List.map_set]
theorem snoc_cEntry {xs : List DEntry} {x : DEntry} : xs.map cEntry ++ [[.str x.Name, .str x.Param, .int .i64 x.Body]] = (xs ++ [x]).map cEntry := by simp
theorem solid_cEntry {xs : List DEntry} : solid (xs.map cEntry) = true := solid_map fun _ => rfl
structure DMonitor where
  Name : ByteArray
  Vars : List (ByteArray)
  Queues : List (ByteArray)
  Entries : List (DEntry)
abbrev cMonitor (x : DMonitor) : List AV := [.str x.Name, .tree 1 (x.Vars.map cS), .tree 1 (x.Queues.map cS), .tree 3 (x.Entries.map cEntry)]
def wtMonitor (x : DMonitor) : Nat := x.Name.size + (x.Vars.length + tot wtS x.Vars) + (x.Queues.length + tot wtS x.Queues) + (x.Entries.length + tot wtEntry x.Entries)
def gdMonitor (x : DMonitor) : Prop := gdS x.Name ∧ (x.Vars.length ≤ 140737488351232 ∧ ∀ y ∈ x.Vars, gdS y) ∧ (x.Queues.length ≤ 140737488351232 ∧ ∀ y ∈ x.Queues, gdS y) ∧ (x.Entries.length ≤ 140737488351232 ∧ ∀ y ∈ x.Entries, gdEntry y)
def mkMonitor (x : DMonitor) (k : Int) : DMonitor := { Name := (mT k), Vars := mkL mkS ct1 x.Vars (k + 1), Queues := mkL mkS ct1 x.Queues ((k + 1) + (tot ct1 x.Vars : Nat)), Entries := mkL mkEntry ctEntry x.Entries (((k + 1) + (tot ct1 x.Vars : Nat)) + (tot ct1 x.Queues : Nat)) }
def ctMonitor (x : DMonitor) : Nat := 1 + tot ct1 x.Vars + tot ct1 x.Queues + tot ctEntry x.Entries
theorem ctle_Monitor (x : DMonitor) : ctMonitor x ≤ 3 * (1 + wtMonitor x) := by
  have h0 := tot_ct1 x.Vars
  have h1 := tot_ct1 x.Queues
  have h2 := tctle_Entry x.Entries
  unfold ctMonitor
  simp only [wtMonitor] at *
  omega
theorem tctle_Monitor (xs : List DMonitor) : tot ctMonitor xs ≤ 3 * (xs.length + tot wtMonitor xs) := tot_ct_le ctle_Monitor xs
def mwMonitor (x : DMonitor) (k : Int) : DMonitor := { Name := x.Name, Vars := mkL mkS ct1 x.Vars k, Queues := mkL mkS ct1 x.Queues (k + (tot ct1 x.Vars : Nat)), Entries := mkL mkEntry ctEntry x.Entries ((k + (tot ct1 x.Vars : Nat)) + (tot ct1 x.Queues : Nat)) }
def cwMonitor (x : DMonitor) : Nat := tot ct1 x.Vars + tot ct1 x.Queues + tot ctEntry x.Entries
theorem set_cMonitor {xs : List DMonitor} {n : Nat} {x : DMonitor} : (xs.map cMonitor).set n [.str x.Name, .tree 1 (x.Vars.map cS), .tree 1 (x.Queues.map cS), .tree 3 (x.Entries.map cEntry)] = (xs.set n x).map cMonitor := by rw [List.map_set]
theorem snoc_cMonitor {xs : List DMonitor} {x : DMonitor} : xs.map cMonitor ++ [[.str x.Name, .tree 1 (x.Vars.map cS), .tree 1 (x.Queues.map cS), .tree 3 (x.Entries.map cEntry)]] = (xs ++ [x]).map cMonitor := by simp
theorem solid_cMonitor {xs : List DMonitor} : solid (xs.map cMonitor) = true := solid_map fun _ => rfl
structure DProcess where
  Name : ByteArray
  Uses : List (ByteArray)
  Vars : List (ByteArray)
  Body : Int
abbrev cProcess (x : DProcess) : List AV := [.str x.Name, .tree 1 (x.Uses.map cS), .tree 1 (x.Vars.map cS), .int .i64 x.Body]
def wtProcess (x : DProcess) : Nat := x.Name.size + (x.Uses.length + tot wtS x.Uses) + (x.Vars.length + tot wtS x.Vars)
def gdProcess (x : DProcess) : Prop := gdS x.Name ∧ (x.Uses.length ≤ 140737488351232 ∧ ∀ y ∈ x.Uses, gdS y) ∧ (x.Vars.length ≤ 140737488351232 ∧ ∀ y ∈ x.Vars, gdS y) ∧ i64 x.Body
def mkProcess (x : DProcess) (k : Int) : DProcess := { Name := (mT k), Uses := mkL mkS ct1 x.Uses (k + 1), Vars := mkL mkS ct1 x.Vars ((k + 1) + (tot ct1 x.Uses : Nat)), Body := (((k + 1) + (tot ct1 x.Uses : Nat)) + (tot ct1 x.Vars : Nat)) }
def ctProcess (x : DProcess) : Nat := 1 + tot ct1 x.Uses + tot ct1 x.Vars + 1
theorem ctle_Process (x : DProcess) : ctProcess x ≤ 2 * (1 + wtProcess x) := by
  have h0 := tot_ct1 x.Uses
  have h1 := tot_ct1 x.Vars
  unfold ctProcess
  simp only [wtProcess] at *
  omega
theorem tctle_Process (xs : List DProcess) : tot ctProcess xs ≤ 2 * (xs.length + tot wtProcess xs) := tot_ct_le ctle_Process xs
def mwProcess (x : DProcess) (k : Int) : DProcess := { Name := x.Name, Uses := mkL mkS ct1 x.Uses k, Vars := mkL mkS ct1 x.Vars (k + (tot ct1 x.Uses : Nat)), Body := x.Body }
def cwProcess (x : DProcess) : Nat := tot ct1 x.Uses + tot ct1 x.Vars
theorem set_cProcess {xs : List DProcess} {n : Nat} {x : DProcess} : (xs.map cProcess).set n [.str x.Name, .tree 1 (x.Uses.map cS), .tree 1 (x.Vars.map cS), .int .i64 x.Body] = (xs.set n x).map cProcess := by rw [List.map_set]
theorem snoc_cProcess {xs : List DProcess} {x : DProcess} : xs.map cProcess ++ [[.str x.Name, .tree 1 (x.Uses.map cS), .tree 1 (x.Vars.map cS), .int .i64 x.Body]] = (xs ++ [x]).map cProcess := by simp
theorem solid_cProcess {xs : List DProcess} : solid (xs.map cProcess) = true := solid_map fun _ => rfl
structure DProgram where
  Nodes : List (DNode)
  Monitors : List (DMonitor)
  Processes : List (DProcess)
abbrev cProgram (x : DProgram) : List AV := [.tree 6 (x.Nodes.map cNode), .tree 4 (x.Monitors.map cMonitor), .tree 4 (x.Processes.map cProcess)]
def wtProgram (x : DProgram) : Nat := (x.Nodes.length + tot wtNode x.Nodes) + (x.Monitors.length + tot wtMonitor x.Monitors) + (x.Processes.length + tot wtProcess x.Processes)
def gdProgram (x : DProgram) : Prop := (x.Nodes.length ≤ 140737488351232 ∧ ∀ y ∈ x.Nodes, gdNode y) ∧ (x.Monitors.length ≤ 140737488351232 ∧ ∀ y ∈ x.Monitors, gdMonitor y) ∧ (x.Processes.length ≤ 140737488351232 ∧ ∀ y ∈ x.Processes, gdProcess y)
def mkProgram (x : DProgram) (k : Int) : DProgram := { Nodes := mkL mkNode ctNode x.Nodes k, Monitors := mkL mkMonitor ctMonitor x.Monitors (k + (tot ctNode x.Nodes : Nat)), Processes := mkL mkProcess ctProcess x.Processes ((k + (tot ctNode x.Nodes : Nat)) + (tot ctMonitor x.Monitors : Nat)) }
def ctProgram (x : DProgram) : Nat := tot ctNode x.Nodes + tot ctMonitor x.Monitors + tot ctProcess x.Processes
theorem ctle_Program (x : DProgram) : ctProgram x ≤ 5 * (1 + wtProgram x) := by
  have h0 := tctle_Node x.Nodes
  have h1 := tctle_Monitor x.Monitors
  have h2 := tctle_Process x.Processes
  unfold ctProgram
  simp only [wtProgram] at *
  omega
theorem tctle_Program (xs : List DProgram) : tot ctProgram xs ≤ 5 * (xs.length + tot wtProgram xs) := tot_ct_le ctle_Program xs
def mwProgram (x : DProgram) (k : Int) : DProgram := { Nodes := mkL mkNode ctNode x.Nodes k, Monitors := mkL mkMonitor ctMonitor x.Monitors (k + (tot ctNode x.Nodes : Nat)), Processes := mkL mkProcess ctProcess x.Processes ((k + (tot ctNode x.Nodes : Nat)) + (tot ctMonitor x.Monitors : Nat)) }
def cwProgram (x : DProgram) : Nat := tot ctNode x.Nodes + tot ctMonitor x.Monitors + tot ctProcess x.Processes
theorem set_cProgram {xs : List DProgram} {n : Nat} {x : DProgram} : (xs.map cProgram).set n [.tree 6 (x.Nodes.map cNode), .tree 4 (x.Monitors.map cMonitor), .tree 4 (x.Processes.map cProcess)] = (xs.set n x).map cProgram := by rw [List.map_set]
theorem snoc_cProgram {xs : List DProgram} {x : DProgram} : xs.map cProgram ++ [[.tree 6 (x.Nodes.map cNode), .tree 4 (x.Monitors.map cMonitor), .tree 4 (x.Processes.map cProcess)]] = (xs ++ [x]).map cProgram := by simp
theorem solid_cProgram {xs : List DProgram} : solid (xs.map cProgram) = true := solid_map fun _ => rfl
structure DGate where
  Owner : Int
  Waits : List (Int)
  Queues : List (Int)
abbrev cGate (x : DGate) : List AV := [.int .i64 x.Owner, .tree 1 (x.Waits.map cI), .tree 1 (x.Queues.map cI)]
def wtGate (x : DGate) : Nat := x.Waits.length + x.Queues.length
def gdGate (x : DGate) : Prop := i64 x.Owner ∧ (x.Waits.length ≤ 140737488351232 ∧ ∀ y ∈ x.Waits, i64 y) ∧ (x.Queues.length ≤ 140737488351232 ∧ ∀ y ∈ x.Queues, i64 y)
def mkGate (x : DGate) (k : Int) : DGate := { Owner := k, Waits := mkL mkI ct1 x.Waits (k + 1), Queues := mkL mkI ct1 x.Queues ((k + 1) + (tot ct1 x.Waits : Nat)) }
def ctGate (x : DGate) : Nat := 1 + tot ct1 x.Waits + tot ct1 x.Queues
theorem ctle_Gate (x : DGate) : ctGate x ≤ 1 * (1 + wtGate x) := by
  have h0 := tot_ct1 x.Waits
  have h1 := tot_ct1 x.Queues
  unfold ctGate
  simp only [wtGate] at *
  omega
theorem tctle_Gate (xs : List DGate) : tot ctGate xs ≤ 1 * (xs.length + tot wtGate xs) := tot_ct_le ctle_Gate xs
def mwGate (x : DGate) (k : Int) : DGate := { Owner := x.Owner, Waits := mkL mkI ct1 x.Waits k, Queues := mkL mkI ct1 x.Queues (k + (tot ct1 x.Waits : Nat)) }
def cwGate (x : DGate) : Nat := tot ct1 x.Waits + tot ct1 x.Queues
theorem set_cGate {xs : List DGate} {n : Nat} {x : DGate} : (xs.map cGate).set n [.int .i64 x.Owner, .tree 1 (x.Waits.map cI), .tree 1 (x.Queues.map cI)] = (xs.set n x).map cGate := by rw [List.map_set]
theorem snoc_cGate {xs : List DGate} {x : DGate} : xs.map cGate ++ [[.int .i64 x.Owner, .tree 1 (x.Waits.map cI), .tree 1 (x.Queues.map cI)]] = (xs ++ [x]).map cGate := by simp
theorem solid_cGate {xs : List DGate} : solid (xs.map cGate) = true := solid_map fun _ => rfl
structure DCore where
  Regs : List (Int)
  Pc : Int
  Process : Int
abbrev cCore (x : DCore) : List AV := [.tree 1 (x.Regs.map cI), .int .i64 x.Pc, .int .i64 x.Process]
def wtCore (x : DCore) : Nat := x.Regs.length
def gdCore (x : DCore) : Prop := (x.Regs.length ≤ 140737488351232 ∧ ∀ y ∈ x.Regs, i64 y) ∧ i64 x.Pc ∧ i64 x.Process
def mkCore (x : DCore) (k : Int) : DCore := { Regs := mkL mkI ct1 x.Regs k, Pc := (k + (tot ct1 x.Regs : Nat)), Process := ((k + (tot ct1 x.Regs : Nat)) + 1) }
def ctCore (x : DCore) : Nat := tot ct1 x.Regs + 1 + 1
theorem ctle_Core (x : DCore) : ctCore x ≤ 2 * (1 + wtCore x) := by
  have h0 := tot_ct1 x.Regs
  unfold ctCore
  simp only [wtCore] at *
  omega
theorem tctle_Core (xs : List DCore) : tot ctCore xs ≤ 2 * (xs.length + tot wtCore xs) := tot_ct_le ctle_Core xs
def mwCore (x : DCore) (k : Int) : DCore := { Regs := mkL mkI ct1 x.Regs k, Pc := x.Pc, Process := x.Process }
def cwCore (x : DCore) : Nat := tot ct1 x.Regs
theorem set_cCore {xs : List DCore} {n : Nat} {x : DCore} : (xs.map cCore).set n [.tree 1 (x.Regs.map cI), .int .i64 x.Pc, .int .i64 x.Process] = (xs.set n x).map cCore := by rw [List.map_set]
theorem snoc_cCore {xs : List DCore} {x : DCore} : xs.map cCore ++ [[.tree 1 (x.Regs.map cI), .int .i64 x.Pc, .int .i64 x.Process]] = (xs ++ [x]).map cCore := by simp
theorem solid_cCore {xs : List DCore} : solid (xs.map cCore) = true := solid_map fun _ => rfl
structure DImage where
  Text : List (Int)
  Starts : List (Int)
  Size : Int
abbrev cImage (x : DImage) : List AV := [.tree 1 (x.Text.map cI), .tree 1 (x.Starts.map cI), .int .i64 x.Size]
def wtImage (x : DImage) : Nat := x.Text.length + x.Starts.length
def gdImage (x : DImage) : Prop := (x.Text.length ≤ 140737488351232 ∧ ∀ y ∈ x.Text, i64 y) ∧ (x.Starts.length ≤ 140737488351232 ∧ ∀ y ∈ x.Starts, i64 y) ∧ i64 x.Size
def mkImage (x : DImage) (k : Int) : DImage := { Text := mkL mkI ct1 x.Text k, Starts := mkL mkI ct1 x.Starts (k + (tot ct1 x.Text : Nat)), Size := ((k + (tot ct1 x.Text : Nat)) + (tot ct1 x.Starts : Nat)) }
def ctImage (x : DImage) : Nat := tot ct1 x.Text + tot ct1 x.Starts + 1
theorem ctle_Image (x : DImage) : ctImage x ≤ 1 * (1 + wtImage x) := by
  have h0 := tot_ct1 x.Text
  have h1 := tot_ct1 x.Starts
  unfold ctImage
  simp only [wtImage] at *
  omega
theorem tctle_Image (xs : List DImage) : tot ctImage xs ≤ 1 * (xs.length + tot wtImage xs) := tot_ct_le ctle_Image xs
def mwImage (x : DImage) (k : Int) : DImage := { Text := mkL mkI ct1 x.Text k, Starts := mkL mkI ct1 x.Starts (k + (tot ct1 x.Text : Nat)), Size := x.Size }
def cwImage (x : DImage) : Nat := tot ct1 x.Text + tot ct1 x.Starts
theorem set_cImage {xs : List DImage} {n : Nat} {x : DImage} : (xs.map cImage).set n [.tree 1 (x.Text.map cI), .tree 1 (x.Starts.map cI), .int .i64 x.Size] = (xs.set n x).map cImage := by rw [List.map_set]
theorem snoc_cImage {xs : List DImage} {x : DImage} : xs.map cImage ++ [[.tree 1 (x.Text.map cI), .tree 1 (x.Starts.map cI), .int .i64 x.Size]] = (xs ++ [x]).map cImage := by simp
theorem solid_cImage {xs : List DImage} : solid (xs.map cImage) = true := solid_map fun _ => rfl
structure DKernel where
  Gates : List (DGate)
  Ready : List (Int)
  Saved : List (DCore)
  Over : List (Bool)
abbrev cKernel (x : DKernel) : List AV := [.tree 3 (x.Gates.map cGate), .tree 1 (x.Ready.map cI), .tree 3 (x.Saved.map cCore), .tree 1 (x.Over.map cB)]
def wtKernel (x : DKernel) : Nat := (x.Gates.length + tot wtGate x.Gates) + x.Ready.length + (x.Saved.length + tot wtCore x.Saved) + x.Over.length
def gdKernel (x : DKernel) : Prop := (x.Gates.length ≤ 140737488351232 ∧ ∀ y ∈ x.Gates, gdGate y) ∧ (x.Ready.length ≤ 140737488351232 ∧ ∀ y ∈ x.Ready, i64 y) ∧ (x.Saved.length ≤ 140737488351232 ∧ ∀ y ∈ x.Saved, gdCore y) ∧ (x.Over.length ≤ 140737488351232)
def mkKernel (x : DKernel) (k : Int) : DKernel := { Gates := mkL mkGate ctGate x.Gates k, Ready := mkL mkI ct1 x.Ready (k + (tot ctGate x.Gates : Nat)), Saved := mkL mkCore ctCore x.Saved ((k + (tot ctGate x.Gates : Nat)) + (tot ct1 x.Ready : Nat)), Over := mkL mkB ct1 x.Over (((k + (tot ctGate x.Gates : Nat)) + (tot ct1 x.Ready : Nat)) + (tot ctCore x.Saved : Nat)) }
def ctKernel (x : DKernel) : Nat := tot ctGate x.Gates + tot ct1 x.Ready + tot ctCore x.Saved + tot ct1 x.Over
theorem ctle_Kernel (x : DKernel) : ctKernel x ≤ 2 * (1 + wtKernel x) := by
  have h0 := tctle_Gate x.Gates
  have h1 := tot_ct1 x.Ready
  have h2 := tctle_Core x.Saved
  have h3 := tot_ct1 x.Over
  unfold ctKernel
  simp only [wtKernel] at *
  omega
theorem tctle_Kernel (xs : List DKernel) : tot ctKernel xs ≤ 2 * (xs.length + tot wtKernel xs) := tot_ct_le ctle_Kernel xs
def mwKernel (x : DKernel) (k : Int) : DKernel := { Gates := mkL mkGate ctGate x.Gates k, Ready := mkL mkI ct1 x.Ready (k + (tot ctGate x.Gates : Nat)), Saved := mkL mkCore ctCore x.Saved ((k + (tot ctGate x.Gates : Nat)) + (tot ct1 x.Ready : Nat)), Over := mkL mkB ct1 x.Over (((k + (tot ctGate x.Gates : Nat)) + (tot ct1 x.Ready : Nat)) + (tot ctCore x.Saved : Nat)) }
def cwKernel (x : DKernel) : Nat := tot ctGate x.Gates + tot ct1 x.Ready + tot ctCore x.Saved + tot ct1 x.Over
theorem set_cKernel {xs : List DKernel} {n : Nat} {x : DKernel} : (xs.map cKernel).set n [.tree 3 (x.Gates.map cGate), .tree 1 (x.Ready.map cI), .tree 3 (x.Saved.map cCore), .tree 1 (x.Over.map cB)] = (xs.set n x).map cKernel := by rw [List.map_set]
theorem snoc_cKernel {xs : List DKernel} {x : DKernel} : xs.map cKernel ++ [[.tree 3 (x.Gates.map cGate), .tree 1 (x.Ready.map cI), .tree 3 (x.Saved.map cCore), .tree 1 (x.Over.map cB)]] = (xs ++ [x]).map cKernel := by simp
theorem solid_cKernel {xs : List DKernel} : solid (xs.map cKernel) = true := solid_map fun _ => rfl
def FT := (And.intro (And.intro (And.intro (And.intro @solid_cNode (And.intro @solid_cEntry @solid_cMonitor)) (And.intro (And.intro @solid_cProcess @solid_cProgram) (And.intro @solid_cGate @solid_cCore))) (And.intro (And.intro @solid_cImage (And.intro @solid_cKernel @flat_cEntry)) (And.intro (And.intro @snoc_cNode @snoc_cEntry) (And.intro @snoc_cMonitor @snoc_cProcess)))) (And.intro (And.intro (And.intro @snoc_cProgram (And.intro @snoc_cGate @snoc_cCore)) (And.intro (And.intro @snoc_cImage @snoc_cKernel) (And.intro @set_cNode @set_cEntry))) (And.intro (And.intro @set_cMonitor (And.intro @set_cProcess @set_cProgram)) (And.intro (And.intro @set_cGate @set_cCore) (And.intro @set_cImage @set_cKernel)))))
theorem sem_laws_szIntS (xs : List Int) (h : xs.length ≤ 140737488351232) (n : Int) (h1 : -1 ≤ n) (h2 : n ≤ 4611686018427387904) : S_laws_szIntS.sem [.tree 1 (xs.map cI), .int .i64 n] = some (.int .i64 (lft n xs.length), []) := by
  rw [sg_laws_szIntS, sem_go]
  simp +contextual (maxSteps := 10000000) (disch := omega) only [F_laws_szIntS, params, EG, EL, ↓reduceIte, Nat.reduceEqDiff, Nat.reduceAdd, Nat.reduceSub, Nat.reduceMul, Nat.reduceLeDiff, Nat.reduceLT, Int.reduceLT, Int.reduceLE, Int.reduceEq, Int.reduceToNat, reduceCtorEq, FB, FT, cx_laws_szIntS, wrapI]
  unfold lft
  split <;> rfl
theorem sem_laws_szNode (x : DNode) (g : gdNode x) (n : Int) (h1 : -1 ≤ n) (h2 : n ≤ 4611686018427387904) : S_laws_szNode.sem [.agg (cNode x), .int .i64 n] = some (.int .i64 (lft n (wtNode x)), []) := by
  obtain ⟨g0, g1, g2, g3, g4, ⟨g5, g5e⟩⟩ := (show i64 x.Kind ∧ i64 x.Num ∧ gdS x.Name ∧ gdS x.More ∧ gdS x.To ∧ (x.Kids.length ≤ 140737488351232 ∧ ∀ y ∈ x.Kids, i64 y) from g)
  simp only [gdS] at g2 g3 g4
  unfold wtNode
  have kW := lft_or n (x.Name.size + x.More.size + x.To.size + x.Kids.length)
  rw [sg_laws_szNode, sem_go]
  by_cases c0 : n - ((x.Name.size : Nat) : Int) < 0
  · simp (maxSteps := 10000000) (disch := first | assumption | omega) only [F_laws_szNode, params, EG, EL, ↓reduceIte, Nat.reduceEqDiff, Nat.reduceAdd, Nat.reduceSub, Nat.reduceMul, Nat.reduceLeDiff, Nat.reduceLT, Int.reduceLT, Int.reduceLE, Int.reduceEq, Int.reduceToNat, reduceCtorEq, FB, FT, cx_laws_szNode, cl_laws_szIntS, sem_laws_szIntS, wrapI, neg1_lt, c0]
    first | done | (simp only [Option.some.injEq, Prod.mk.injEq, AV.int.injEq, AV.bool.injEq, AV.str.injEq, true_and, and_true]; omega)
  · skip
    by_cases c1 : n - ((x.Name.size : Nat) : Int) - ((x.More.size : Nat) : Int) < 0
    · simp (maxSteps := 10000000) (disch := first | assumption | omega) only [F_laws_szNode, params, EG, EL, ↓reduceIte, Nat.reduceEqDiff, Nat.reduceAdd, Nat.reduceSub, Nat.reduceMul, Nat.reduceLeDiff, Nat.reduceLT, Int.reduceLT, Int.reduceLE, Int.reduceEq, Int.reduceToNat, reduceCtorEq, FB, FT, cx_laws_szNode, cl_laws_szIntS, sem_laws_szIntS, wrapI, neg1_lt, c0, c1]
      first | done | (simp only [Option.some.injEq, Prod.mk.injEq, AV.int.injEq, AV.bool.injEq, AV.str.injEq, true_and, and_true]; omega)
    · skip
      by_cases c2 : n - ((x.Name.size : Nat) : Int) - ((x.More.size : Nat) : Int) - ((x.To.size : Nat) : Int) < 0
      · simp (maxSteps := 10000000) (disch := first | assumption | omega) only [F_laws_szNode, params, EG, EL, ↓reduceIte, Nat.reduceEqDiff, Nat.reduceAdd, Nat.reduceSub, Nat.reduceMul, Nat.reduceLeDiff, Nat.reduceLT, Int.reduceLT, Int.reduceLE, Int.reduceEq, Int.reduceToNat, reduceCtorEq, FB, FT, cx_laws_szNode, cl_laws_szIntS, sem_laws_szIntS, wrapI, neg1_lt, c0, c1, c2]
        first | done | (simp only [Option.some.injEq, Prod.mk.injEq, AV.int.injEq, AV.bool.injEq, AV.str.injEq, true_and, and_true]; omega)
      · skip
        rcases lft_or (n - ((x.Name.size : Nat) : Int) - ((x.More.size : Nat) : Int) - ((x.To.size : Nat) : Int)) (x.Kids.length) with ⟨e3, f3⟩ | ⟨e3, f3⟩
        · simp (maxSteps := 10000000) (disch := first | assumption | omega) only [F_laws_szNode, params, EG, EL, ↓reduceIte, Nat.reduceEqDiff, Nat.reduceAdd, Nat.reduceSub, Nat.reduceMul, Nat.reduceLeDiff, Nat.reduceLT, Int.reduceLT, Int.reduceLE, Int.reduceEq, Int.reduceToNat, reduceCtorEq, FB, FT, cx_laws_szNode, cl_laws_szIntS, sem_laws_szIntS, wrapI, neg1_lt, c0, c1, c2, e3]
          first | done | (simp only [Option.some.injEq, Prod.mk.injEq, AV.int.injEq, AV.bool.injEq, AV.str.injEq, true_and, and_true]; omega)
        · have c3 : ¬ n - ((x.Name.size : Nat) : Int) - ((x.More.size : Nat) : Int) - ((x.To.size : Nat) : Int) - ((x.Kids.length : Nat) : Int) < 0 := by omega
          simp (maxSteps := 10000000) (disch := first | assumption | omega) only [F_laws_szNode, params, EG, EL, ↓reduceIte, Nat.reduceEqDiff, Nat.reduceAdd, Nat.reduceSub, Nat.reduceMul, Nat.reduceLeDiff, Nat.reduceLT, Int.reduceLT, Int.reduceLE, Int.reduceEq, Int.reduceToNat, reduceCtorEq, FB, FT, cx_laws_szNode, cl_laws_szIntS, sem_laws_szIntS, wrapI, neg1_lt, c0, c1, c2, e3, c3]
          first | done | rfl | (simp only [Option.some.injEq, Prod.mk.injEq, AV.int.injEq, AV.bool.injEq, AV.str.injEq, true_and, and_true]; omega)
theorem loop_laws_szNodeS (xs : List DNode) (g : ∀ y ∈ xs, gdNode y) (hl : xs.length ≤ 140737488351232) (n : Int) (h1 : 0 ≤ n) (h2 : n ≤ 4611686018427387904) :
    loopV X_laws_szNodeS 0 [0, 1, 5] [(1, [1]), (0, [4])] B0_laws_szNodeS ⟨[(0, .tree 6 (xs.map cNode)), (1, .int .i64 n), (5, .int .i64 0)], []⟩ = szR 4 n (tot wtNode xs) := by
  refine loop_list xs (fun _ m => 0 ≤ m ∧ m ≤ 4611686018427387904) (fun i (m : Int) => ⟨[(0, .tree 6 (xs.map cNode)), (1, .int .i64 m), (5, .int .i64 ((i : Nat) : Int))], []⟩) (fun rest m => szR 4 m (tot wtNode rest)) ?_ ?_ n ⟨h1, h2⟩
  · rintro m ⟨m1, m2⟩
    rw [loopV_by B0_laws_szNodeS.eq_1]
    simp only [EG, EL, ↓reduceIte, Nat.reduceEqDiff, Nat.reduceAdd, Nat.reduceSub, Nat.reduceMul, Nat.reduceLeDiff, Nat.reduceLT, Int.reduceLT, Int.reduceLE, Int.reduceEq, Int.reduceToNat, reduceCtorEq, int_lt_irrefl]
    exact szR_zero m1
  · rintro i h x rest m rfl rfl ⟨m1, m2⟩ ih
    have hi : (i : Int) < (xs.length : Int) := by omega
    have hx := g _ (List.getElem_mem h)
    skip
    rw [loopV_by B0_laws_szNodeS.eq_1]
    by_cases hc : m - ((wtNode xs[i] : Nat) : Int) < 0
    · have hq : lft m (wtNode xs[i]) = -1 := if_pos hc
      simp (maxSteps := 10000000) (disch := first | assumption | omega) only [EG, EL, ↓reduceIte, Nat.reduceEqDiff, Nat.reduceAdd, Nat.reduceSub, Nat.reduceMul, Nat.reduceLeDiff, Nat.reduceLT, Int.reduceLT, Int.reduceLE, Int.reduceEq, Int.reduceToNat, reduceCtorEq, FB, FT, hi, wrap_succ, getRow _ _ h, cx_laws_szNodeS, cl_laws_szNode, sem_laws_szNode, hc, hq, neg1_lt]
      exact szR_neg hc
    · have hq : lft m (wtNode xs[i]) = m - ((wtNode xs[i] : Nat) : Int) := if_neg hc
      simp (maxSteps := 10000000) (disch := first | assumption | omega) only [EG, EL, ↓reduceIte, Nat.reduceEqDiff, Nat.reduceAdd, Nat.reduceSub, Nat.reduceMul, Nat.reduceLeDiff, Nat.reduceLT, Int.reduceLT, Int.reduceLE, Int.reduceEq, Int.reduceToNat, reduceCtorEq, FB, FT, hi, wrap_succ, getRow _ _ h, cx_laws_szNodeS, cl_laws_szNode, sem_laws_szNode, hc, hq, neg1_lt]
      skip
      rw [ih _ ⟨by omega, by omega⟩]
      exact szR_pos
theorem sem_laws_szNodeS (xs : List DNode) (h : xs.length ≤ 140737488351232) (g : ∀ y ∈ xs, gdNode y) (n : Int) (h1 : -1 ≤ n) (h2 : n ≤ 4611686018427387904) : S_laws_szNodeS.sem [.tree 6 (xs.map cNode), .int .i64 n] = some (.int .i64 (lft n (xs.length + tot wtNode xs)), []) := by
  rw [sg_laws_szNodeS, sem_go]
  by_cases hc : n - (xs.length : Int) < 0
  · simp (maxSteps := 10000000) (disch := omega) only [F_laws_szNodeS, params, EG, EL, ↓reduceIte, Nat.reduceEqDiff, Nat.reduceAdd, Nat.reduceSub, Nat.reduceMul, Nat.reduceLeDiff, Nat.reduceLT, Int.reduceLT, Int.reduceLE, Int.reduceEq, Int.reduceToNat, reduceCtorEq, FB, FT, cx_laws_szNodeS, cl_laws_szNode, sem_laws_szNode, wrapI, hc, lft]
    rw [if_pos (by omega)]
  · simp (maxSteps := 10000000) (disch := first | assumption | omega) only [F_laws_szNodeS, params, EG, EL, ↓reduceIte, Nat.reduceEqDiff, Nat.reduceAdd, Nat.reduceSub, Nat.reduceMul, Nat.reduceLeDiff, Nat.reduceLT, Int.reduceLT, Int.reduceLE, Int.reduceEq, Int.reduceToNat, reduceCtorEq, FB, FT, cx_laws_szNodeS, cl_laws_szNode, sem_laws_szNode, wrapI, hc, loop_laws_szNodeS, goE_szR]
    unfold lft
    (repeat' split) <;> first | rfl | omega | (simp only [Option.some.injEq, Prod.mk.injEq, AV.int.injEq, AV.bool.injEq, AV.str.injEq, true_and, and_true]; omega)
theorem loop_laws_szStringS (xs : List ByteArray) (g : ∀ y ∈ xs, gdS y) (hl : xs.length ≤ 140737488351232) (n : Int) (h1 : 0 ≤ n) (h2 : n ≤ 4611686018427387904) :
    loopV X_laws_szStringS 0 [0, 1, 5] [(1, [1]), (0, [4])] B0_laws_szStringS ⟨[(0, .tree 1 (xs.map cS)), (1, .int .i64 n), (5, .int .i64 0)], []⟩ = szR 4 n (tot wtS xs) := by
  refine loop_list xs (fun _ m => 0 ≤ m ∧ m ≤ 4611686018427387904) (fun i (m : Int) => ⟨[(0, .tree 1 (xs.map cS)), (1, .int .i64 m), (5, .int .i64 ((i : Nat) : Int))], []⟩) (fun rest m => szR 4 m (tot wtS rest)) ?_ ?_ n ⟨h1, h2⟩
  · rintro m ⟨m1, m2⟩
    rw [loopV_by B0_laws_szStringS.eq_1]
    simp only [EG, EL, ↓reduceIte, Nat.reduceEqDiff, Nat.reduceAdd, Nat.reduceSub, Nat.reduceMul, Nat.reduceLeDiff, Nat.reduceLT, Int.reduceLT, Int.reduceLE, Int.reduceEq, Int.reduceToNat, reduceCtorEq, int_lt_irrefl]
    exact szR_zero m1
  · rintro i h x rest m rfl rfl ⟨m1, m2⟩ ih
    have hi : (i : Int) < (xs.length : Int) := by omega
    have hx := g _ (List.getElem_mem h)
    simp only [gdS] at hx
    rw [loopV_by B0_laws_szStringS.eq_1]
    by_cases hc : m - ((xs[i].size : Nat) : Int) < 0
    · skip
      simp (maxSteps := 10000000) (disch := first | assumption | omega) only [EG, EL, ↓reduceIte, Nat.reduceEqDiff, Nat.reduceAdd, Nat.reduceSub, Nat.reduceMul, Nat.reduceLeDiff, Nat.reduceLT, Int.reduceLT, Int.reduceLE, Int.reduceEq, Int.reduceToNat, reduceCtorEq, FB, FT, hi, wrap_succ, getRow _ _ h, cx_laws_szStringS, hc, wrapI]
      exact szR_neg hc
    · skip
      simp (maxSteps := 10000000) (disch := first | assumption | omega) only [EG, EL, ↓reduceIte, Nat.reduceEqDiff, Nat.reduceAdd, Nat.reduceSub, Nat.reduceMul, Nat.reduceLeDiff, Nat.reduceLT, Int.reduceLT, Int.reduceLE, Int.reduceEq, Int.reduceToNat, reduceCtorEq, FB, FT, hi, getRow _ _ h, cx_laws_szStringS, hc, wrapI]
      rw [show ((i : Nat) : Int) + 1 = ((i + 1 : Nat) : Int) by omega]
      rw [ih _ ⟨by omega, by omega⟩]
      exact szR_pos
theorem sem_laws_szStringS (xs : List ByteArray) (h : xs.length ≤ 140737488351232) (g : ∀ y ∈ xs, gdS y) (n : Int) (h1 : -1 ≤ n) (h2 : n ≤ 4611686018427387904) : S_laws_szStringS.sem [.tree 1 (xs.map cS), .int .i64 n] = some (.int .i64 (lft n (xs.length + tot wtS xs)), []) := by
  rw [sg_laws_szStringS, sem_go]
  by_cases hc : n - (xs.length : Int) < 0
  · simp (maxSteps := 10000000) (disch := omega) only [F_laws_szStringS, params, EG, EL, ↓reduceIte, Nat.reduceEqDiff, Nat.reduceAdd, Nat.reduceSub, Nat.reduceMul, Nat.reduceLeDiff, Nat.reduceLT, Int.reduceLT, Int.reduceLE, Int.reduceEq, Int.reduceToNat, reduceCtorEq, FB, FT, cx_laws_szStringS, wrapI, hc, lft]
    rw [if_pos (by omega)]
  · simp (maxSteps := 10000000) (disch := first | assumption | omega) only [F_laws_szStringS, params, EG, EL, ↓reduceIte, Nat.reduceEqDiff, Nat.reduceAdd, Nat.reduceSub, Nat.reduceMul, Nat.reduceLeDiff, Nat.reduceLT, Int.reduceLT, Int.reduceLE, Int.reduceEq, Int.reduceToNat, reduceCtorEq, FB, FT, cx_laws_szStringS, wrapI, hc, loop_laws_szStringS, goE_szR]
    unfold lft
    (repeat' split) <;> first | rfl | omega | (simp only [Option.some.injEq, Prod.mk.injEq, AV.int.injEq, AV.bool.injEq, AV.str.injEq, true_and, and_true]; omega)
theorem sem_laws_szEntry (x : DEntry) (g : gdEntry x) (n : Int) (h1 : -1 ≤ n) (h2 : n ≤ 4611686018427387904) : S_laws_szEntry.sem [.agg (cEntry x), .int .i64 n] = some (.int .i64 (lft n (wtEntry x)), []) := by
  obtain ⟨g0, g1, g2⟩ := (show gdS x.Name ∧ gdS x.Param ∧ i64 x.Body from g)
  simp only [gdS] at g0 g1
  unfold wtEntry
  have kW := lft_or n (x.Name.size + x.Param.size)
  rw [sg_laws_szEntry, sem_go]
  by_cases c0 : n - ((x.Name.size : Nat) : Int) < 0
  · simp (maxSteps := 10000000) (disch := first | assumption | omega) only [F_laws_szEntry, params, EG, EL, ↓reduceIte, Nat.reduceEqDiff, Nat.reduceAdd, Nat.reduceSub, Nat.reduceMul, Nat.reduceLeDiff, Nat.reduceLT, Int.reduceLT, Int.reduceLE, Int.reduceEq, Int.reduceToNat, reduceCtorEq, FB, FT, cx_laws_szEntry, wrapI, neg1_lt, c0]
    first | done | (simp only [Option.some.injEq, Prod.mk.injEq, AV.int.injEq, AV.bool.injEq, AV.str.injEq, true_and, and_true]; omega)
  · skip
    by_cases c1 : n - ((x.Name.size : Nat) : Int) - ((x.Param.size : Nat) : Int) < 0
    · simp (maxSteps := 10000000) (disch := first | assumption | omega) only [F_laws_szEntry, params, EG, EL, ↓reduceIte, Nat.reduceEqDiff, Nat.reduceAdd, Nat.reduceSub, Nat.reduceMul, Nat.reduceLeDiff, Nat.reduceLT, Int.reduceLT, Int.reduceLE, Int.reduceEq, Int.reduceToNat, reduceCtorEq, FB, FT, cx_laws_szEntry, wrapI, neg1_lt, c0, c1]
      first | done | (simp only [Option.some.injEq, Prod.mk.injEq, AV.int.injEq, AV.bool.injEq, AV.str.injEq, true_and, and_true]; omega)
    · skip
      simp (maxSteps := 10000000) (disch := first | assumption | omega) only [F_laws_szEntry, params, EG, EL, ↓reduceIte, Nat.reduceEqDiff, Nat.reduceAdd, Nat.reduceSub, Nat.reduceMul, Nat.reduceLeDiff, Nat.reduceLT, Int.reduceLT, Int.reduceLE, Int.reduceEq, Int.reduceToNat, reduceCtorEq, FB, FT, cx_laws_szEntry, wrapI, neg1_lt, c0, c1]
      first | done | rfl | (simp only [Option.some.injEq, Prod.mk.injEq, AV.int.injEq, AV.bool.injEq, AV.str.injEq, true_and, and_true]; omega)
theorem loop_laws_szEntryS (xs : List DEntry) (g : ∀ y ∈ xs, gdEntry y) (hl : xs.length ≤ 140737488351232) (n : Int) (h1 : 0 ≤ n) (h2 : n ≤ 4611686018427387904) :
    loopV X_laws_szEntryS 0 [0, 1, 5] [(1, [1]), (0, [4])] B0_laws_szEntryS ⟨[(0, .tree 3 (xs.map cEntry)), (1, .int .i64 n), (5, .int .i64 0)], []⟩ = szR 4 n (tot wtEntry xs) := by
  refine loop_list xs (fun _ m => 0 ≤ m ∧ m ≤ 4611686018427387904) (fun i (m : Int) => ⟨[(0, .tree 3 (xs.map cEntry)), (1, .int .i64 m), (5, .int .i64 ((i : Nat) : Int))], []⟩) (fun rest m => szR 4 m (tot wtEntry rest)) ?_ ?_ n ⟨h1, h2⟩
  · rintro m ⟨m1, m2⟩
    rw [loopV_by B0_laws_szEntryS.eq_1]
    simp only [EG, EL, ↓reduceIte, Nat.reduceEqDiff, Nat.reduceAdd, Nat.reduceSub, Nat.reduceMul, Nat.reduceLeDiff, Nat.reduceLT, Int.reduceLT, Int.reduceLE, Int.reduceEq, Int.reduceToNat, reduceCtorEq, int_lt_irrefl]
    exact szR_zero m1
  · rintro i h x rest m rfl rfl ⟨m1, m2⟩ ih
    have hi : (i : Int) < (xs.length : Int) := by omega
    have hx := g _ (List.getElem_mem h)
    skip
    rw [loopV_by B0_laws_szEntryS.eq_1]
    by_cases hc : m - ((wtEntry xs[i] : Nat) : Int) < 0
    · have hq : lft m (wtEntry xs[i]) = -1 := if_pos hc
      simp (maxSteps := 10000000) (disch := first | assumption | omega) only [EG, EL, ↓reduceIte, Nat.reduceEqDiff, Nat.reduceAdd, Nat.reduceSub, Nat.reduceMul, Nat.reduceLeDiff, Nat.reduceLT, Int.reduceLT, Int.reduceLE, Int.reduceEq, Int.reduceToNat, reduceCtorEq, FB, FT, hi, wrap_succ, getRow _ _ h, cx_laws_szEntryS, cl_laws_szEntry, sem_laws_szEntry, hc, hq, neg1_lt]
      exact szR_neg hc
    · have hq : lft m (wtEntry xs[i]) = m - ((wtEntry xs[i] : Nat) : Int) := if_neg hc
      simp (maxSteps := 10000000) (disch := first | assumption | omega) only [EG, EL, ↓reduceIte, Nat.reduceEqDiff, Nat.reduceAdd, Nat.reduceSub, Nat.reduceMul, Nat.reduceLeDiff, Nat.reduceLT, Int.reduceLT, Int.reduceLE, Int.reduceEq, Int.reduceToNat, reduceCtorEq, FB, FT, hi, wrap_succ, getRow _ _ h, cx_laws_szEntryS, cl_laws_szEntry, sem_laws_szEntry, hc, hq, neg1_lt]
      skip
      rw [ih _ ⟨by omega, by omega⟩]
      exact szR_pos
theorem sem_laws_szEntryS (xs : List DEntry) (h : xs.length ≤ 140737488351232) (g : ∀ y ∈ xs, gdEntry y) (n : Int) (h1 : -1 ≤ n) (h2 : n ≤ 4611686018427387904) : S_laws_szEntryS.sem [.tree 3 (xs.map cEntry), .int .i64 n] = some (.int .i64 (lft n (xs.length + tot wtEntry xs)), []) := by
  rw [sg_laws_szEntryS, sem_go]
  by_cases hc : n - (xs.length : Int) < 0
  · simp (maxSteps := 10000000) (disch := omega) only [F_laws_szEntryS, params, EG, EL, ↓reduceIte, Nat.reduceEqDiff, Nat.reduceAdd, Nat.reduceSub, Nat.reduceMul, Nat.reduceLeDiff, Nat.reduceLT, Int.reduceLT, Int.reduceLE, Int.reduceEq, Int.reduceToNat, reduceCtorEq, FB, FT, cx_laws_szEntryS, cl_laws_szEntry, sem_laws_szEntry, wrapI, hc, lft]
    rw [if_pos (by omega)]
  · simp (maxSteps := 10000000) (disch := first | assumption | omega) only [F_laws_szEntryS, params, EG, EL, ↓reduceIte, Nat.reduceEqDiff, Nat.reduceAdd, Nat.reduceSub, Nat.reduceMul, Nat.reduceLeDiff, Nat.reduceLT, Int.reduceLT, Int.reduceLE, Int.reduceEq, Int.reduceToNat, reduceCtorEq, FB, FT, cx_laws_szEntryS, cl_laws_szEntry, sem_laws_szEntry, wrapI, hc, loop_laws_szEntryS, goE_szR]
    unfold lft
    (repeat' split) <;> first | rfl | omega | (simp only [Option.some.injEq, Prod.mk.injEq, AV.int.injEq, AV.bool.injEq, AV.str.injEq, true_and, and_true]; omega)
theorem sem_laws_szMonitor (x : DMonitor) (g : gdMonitor x) (n : Int) (h1 : -1 ≤ n) (h2 : n ≤ 4611686018427387904) : S_laws_szMonitor.sem [.agg (cMonitor x), .int .i64 n] = some (.int .i64 (lft n (wtMonitor x)), []) := by
  obtain ⟨g0, ⟨g1, g1e⟩, ⟨g2, g2e⟩, ⟨g3, g3e⟩⟩ := (show gdS x.Name ∧ (x.Vars.length ≤ 140737488351232 ∧ ∀ y ∈ x.Vars, gdS y) ∧ (x.Queues.length ≤ 140737488351232 ∧ ∀ y ∈ x.Queues, gdS y) ∧ (x.Entries.length ≤ 140737488351232 ∧ ∀ y ∈ x.Entries, gdEntry y) from g)
  simp only [gdS] at g0
  unfold wtMonitor
  have kW := lft_or n (x.Name.size + (x.Vars.length + tot wtS x.Vars) + (x.Queues.length + tot wtS x.Queues) + (x.Entries.length + tot wtEntry x.Entries))
  rw [sg_laws_szMonitor, sem_go]
  by_cases c0 : n - ((x.Name.size : Nat) : Int) < 0
  · simp (maxSteps := 10000000) (disch := first | assumption | omega) only [F_laws_szMonitor, params, EG, EL, ↓reduceIte, Nat.reduceEqDiff, Nat.reduceAdd, Nat.reduceSub, Nat.reduceMul, Nat.reduceLeDiff, Nat.reduceLT, Int.reduceLT, Int.reduceLE, Int.reduceEq, Int.reduceToNat, reduceCtorEq, FB, FT, cx_laws_szMonitor, cl_laws_szStringS, sem_laws_szStringS, cl_laws_szEntryS, sem_laws_szEntryS, wrapI, neg1_lt, c0]
    first | done | (simp only [Option.some.injEq, Prod.mk.injEq, AV.int.injEq, AV.bool.injEq, AV.str.injEq, true_and, and_true]; omega)
  · skip
    rcases lft_or (n - ((x.Name.size : Nat) : Int)) (x.Vars.length + tot wtS x.Vars) with ⟨e1, f1⟩ | ⟨e1, f1⟩
    · simp (maxSteps := 10000000) (disch := first | assumption | omega) only [F_laws_szMonitor, params, EG, EL, ↓reduceIte, Nat.reduceEqDiff, Nat.reduceAdd, Nat.reduceSub, Nat.reduceMul, Nat.reduceLeDiff, Nat.reduceLT, Int.reduceLT, Int.reduceLE, Int.reduceEq, Int.reduceToNat, reduceCtorEq, FB, FT, cx_laws_szMonitor, cl_laws_szStringS, sem_laws_szStringS, cl_laws_szEntryS, sem_laws_szEntryS, wrapI, neg1_lt, c0, e1]
      first | done | (simp only [Option.some.injEq, Prod.mk.injEq, AV.int.injEq, AV.bool.injEq, AV.str.injEq, true_and, and_true]; omega)
    · have c1 : ¬ n - ((x.Name.size : Nat) : Int) - ((x.Vars.length + tot wtS x.Vars : Nat) : Int) < 0 := by omega
      rcases lft_or (n - ((x.Name.size : Nat) : Int) - ((x.Vars.length + tot wtS x.Vars : Nat) : Int)) (x.Queues.length + tot wtS x.Queues) with ⟨e2, f2⟩ | ⟨e2, f2⟩
      · simp (maxSteps := 10000000) (disch := first | assumption | omega) only [F_laws_szMonitor, params, EG, EL, ↓reduceIte, Nat.reduceEqDiff, Nat.reduceAdd, Nat.reduceSub, Nat.reduceMul, Nat.reduceLeDiff, Nat.reduceLT, Int.reduceLT, Int.reduceLE, Int.reduceEq, Int.reduceToNat, reduceCtorEq, FB, FT, cx_laws_szMonitor, cl_laws_szStringS, sem_laws_szStringS, cl_laws_szEntryS, sem_laws_szEntryS, wrapI, neg1_lt, c0, e1, c1, e2]
        first | done | (simp only [Option.some.injEq, Prod.mk.injEq, AV.int.injEq, AV.bool.injEq, AV.str.injEq, true_and, and_true]; omega)
      · have c2 : ¬ n - ((x.Name.size : Nat) : Int) - ((x.Vars.length + tot wtS x.Vars : Nat) : Int) - ((x.Queues.length + tot wtS x.Queues : Nat) : Int) < 0 := by omega
        rcases lft_or (n - ((x.Name.size : Nat) : Int) - ((x.Vars.length + tot wtS x.Vars : Nat) : Int) - ((x.Queues.length + tot wtS x.Queues : Nat) : Int)) (x.Entries.length + tot wtEntry x.Entries) with ⟨e3, f3⟩ | ⟨e3, f3⟩
        · simp (maxSteps := 10000000) (disch := first | assumption | omega) only [F_laws_szMonitor, params, EG, EL, ↓reduceIte, Nat.reduceEqDiff, Nat.reduceAdd, Nat.reduceSub, Nat.reduceMul, Nat.reduceLeDiff, Nat.reduceLT, Int.reduceLT, Int.reduceLE, Int.reduceEq, Int.reduceToNat, reduceCtorEq, FB, FT, cx_laws_szMonitor, cl_laws_szStringS, sem_laws_szStringS, cl_laws_szEntryS, sem_laws_szEntryS, wrapI, neg1_lt, c0, e1, c1, e2, c2, e3]
          first | done | (simp only [Option.some.injEq, Prod.mk.injEq, AV.int.injEq, AV.bool.injEq, AV.str.injEq, true_and, and_true]; omega)
        · have c3 : ¬ n - ((x.Name.size : Nat) : Int) - ((x.Vars.length + tot wtS x.Vars : Nat) : Int) - ((x.Queues.length + tot wtS x.Queues : Nat) : Int) - ((x.Entries.length + tot wtEntry x.Entries : Nat) : Int) < 0 := by omega
          simp (maxSteps := 10000000) (disch := first | assumption | omega) only [F_laws_szMonitor, params, EG, EL, ↓reduceIte, Nat.reduceEqDiff, Nat.reduceAdd, Nat.reduceSub, Nat.reduceMul, Nat.reduceLeDiff, Nat.reduceLT, Int.reduceLT, Int.reduceLE, Int.reduceEq, Int.reduceToNat, reduceCtorEq, FB, FT, cx_laws_szMonitor, cl_laws_szStringS, sem_laws_szStringS, cl_laws_szEntryS, sem_laws_szEntryS, wrapI, neg1_lt, c0, e1, c1, e2, c2, e3, c3]
          first | done | rfl | (simp only [Option.some.injEq, Prod.mk.injEq, AV.int.injEq, AV.bool.injEq, AV.str.injEq, true_and, and_true]; omega)
theorem loop_laws_szMonitorS (xs : List DMonitor) (g : ∀ y ∈ xs, gdMonitor y) (hl : xs.length ≤ 140737488351232) (n : Int) (h1 : 0 ≤ n) (h2 : n ≤ 4611686018427387904) :
    loopV X_laws_szMonitorS 0 [0, 1, 5] [(1, [1]), (0, [4])] B0_laws_szMonitorS ⟨[(0, .tree 4 (xs.map cMonitor)), (1, .int .i64 n), (5, .int .i64 0)], []⟩ = szR 4 n (tot wtMonitor xs) := by
  refine loop_list xs (fun _ m => 0 ≤ m ∧ m ≤ 4611686018427387904) (fun i (m : Int) => ⟨[(0, .tree 4 (xs.map cMonitor)), (1, .int .i64 m), (5, .int .i64 ((i : Nat) : Int))], []⟩) (fun rest m => szR 4 m (tot wtMonitor rest)) ?_ ?_ n ⟨h1, h2⟩
  · rintro m ⟨m1, m2⟩
    rw [loopV_by B0_laws_szMonitorS.eq_1]
    simp only [EG, EL, ↓reduceIte, Nat.reduceEqDiff, Nat.reduceAdd, Nat.reduceSub, Nat.reduceMul, Nat.reduceLeDiff, Nat.reduceLT, Int.reduceLT, Int.reduceLE, Int.reduceEq, Int.reduceToNat, reduceCtorEq, int_lt_irrefl]
    exact szR_zero m1
  · rintro i h x rest m rfl rfl ⟨m1, m2⟩ ih
    have hi : (i : Int) < (xs.length : Int) := by omega
    have hx := g _ (List.getElem_mem h)
    skip
    rw [loopV_by B0_laws_szMonitorS.eq_1]
    by_cases hc : m - ((wtMonitor xs[i] : Nat) : Int) < 0
    · have hq : lft m (wtMonitor xs[i]) = -1 := if_pos hc
      simp (maxSteps := 10000000) (disch := first | assumption | omega) only [EG, EL, ↓reduceIte, Nat.reduceEqDiff, Nat.reduceAdd, Nat.reduceSub, Nat.reduceMul, Nat.reduceLeDiff, Nat.reduceLT, Int.reduceLT, Int.reduceLE, Int.reduceEq, Int.reduceToNat, reduceCtorEq, FB, FT, hi, wrap_succ, getRow _ _ h, cx_laws_szMonitorS, cl_laws_szMonitor, sem_laws_szMonitor, hc, hq, neg1_lt]
      exact szR_neg hc
    · have hq : lft m (wtMonitor xs[i]) = m - ((wtMonitor xs[i] : Nat) : Int) := if_neg hc
      simp (maxSteps := 10000000) (disch := first | assumption | omega) only [EG, EL, ↓reduceIte, Nat.reduceEqDiff, Nat.reduceAdd, Nat.reduceSub, Nat.reduceMul, Nat.reduceLeDiff, Nat.reduceLT, Int.reduceLT, Int.reduceLE, Int.reduceEq, Int.reduceToNat, reduceCtorEq, FB, FT, hi, wrap_succ, getRow _ _ h, cx_laws_szMonitorS, cl_laws_szMonitor, sem_laws_szMonitor, hc, hq, neg1_lt]
      skip
      rw [ih _ ⟨by omega, by omega⟩]
      exact szR_pos
theorem sem_laws_szMonitorS (xs : List DMonitor) (h : xs.length ≤ 140737488351232) (g : ∀ y ∈ xs, gdMonitor y) (n : Int) (h1 : -1 ≤ n) (h2 : n ≤ 4611686018427387904) : S_laws_szMonitorS.sem [.tree 4 (xs.map cMonitor), .int .i64 n] = some (.int .i64 (lft n (xs.length + tot wtMonitor xs)), []) := by
  rw [sg_laws_szMonitorS, sem_go]
  by_cases hc : n - (xs.length : Int) < 0
  · simp (maxSteps := 10000000) (disch := omega) only [F_laws_szMonitorS, params, EG, EL, ↓reduceIte, Nat.reduceEqDiff, Nat.reduceAdd, Nat.reduceSub, Nat.reduceMul, Nat.reduceLeDiff, Nat.reduceLT, Int.reduceLT, Int.reduceLE, Int.reduceEq, Int.reduceToNat, reduceCtorEq, FB, FT, cx_laws_szMonitorS, cl_laws_szMonitor, sem_laws_szMonitor, wrapI, hc, lft]
    rw [if_pos (by omega)]
  · simp (maxSteps := 10000000) (disch := first | assumption | omega) only [F_laws_szMonitorS, params, EG, EL, ↓reduceIte, Nat.reduceEqDiff, Nat.reduceAdd, Nat.reduceSub, Nat.reduceMul, Nat.reduceLeDiff, Nat.reduceLT, Int.reduceLT, Int.reduceLE, Int.reduceEq, Int.reduceToNat, reduceCtorEq, FB, FT, cx_laws_szMonitorS, cl_laws_szMonitor, sem_laws_szMonitor, wrapI, hc, loop_laws_szMonitorS, goE_szR]
    unfold lft
    (repeat' split) <;> first | rfl | omega | (simp only [Option.some.injEq, Prod.mk.injEq, AV.int.injEq, AV.bool.injEq, AV.str.injEq, true_and, and_true]; omega)
theorem sem_laws_szProcess (x : DProcess) (g : gdProcess x) (n : Int) (h1 : -1 ≤ n) (h2 : n ≤ 4611686018427387904) : S_laws_szProcess.sem [.agg (cProcess x), .int .i64 n] = some (.int .i64 (lft n (wtProcess x)), []) := by
  obtain ⟨g0, ⟨g1, g1e⟩, ⟨g2, g2e⟩, g3⟩ := (show gdS x.Name ∧ (x.Uses.length ≤ 140737488351232 ∧ ∀ y ∈ x.Uses, gdS y) ∧ (x.Vars.length ≤ 140737488351232 ∧ ∀ y ∈ x.Vars, gdS y) ∧ i64 x.Body from g)
  simp only [gdS] at g0
  unfold wtProcess
  have kW := lft_or n (x.Name.size + (x.Uses.length + tot wtS x.Uses) + (x.Vars.length + tot wtS x.Vars))
  rw [sg_laws_szProcess, sem_go]
  by_cases c0 : n - ((x.Name.size : Nat) : Int) < 0
  · simp (maxSteps := 10000000) (disch := first | assumption | omega) only [F_laws_szProcess, params, EG, EL, ↓reduceIte, Nat.reduceEqDiff, Nat.reduceAdd, Nat.reduceSub, Nat.reduceMul, Nat.reduceLeDiff, Nat.reduceLT, Int.reduceLT, Int.reduceLE, Int.reduceEq, Int.reduceToNat, reduceCtorEq, FB, FT, cx_laws_szProcess, cl_laws_szStringS, sem_laws_szStringS, wrapI, neg1_lt, c0]
    first | done | (simp only [Option.some.injEq, Prod.mk.injEq, AV.int.injEq, AV.bool.injEq, AV.str.injEq, true_and, and_true]; omega)
  · skip
    rcases lft_or (n - ((x.Name.size : Nat) : Int)) (x.Uses.length + tot wtS x.Uses) with ⟨e1, f1⟩ | ⟨e1, f1⟩
    · simp (maxSteps := 10000000) (disch := first | assumption | omega) only [F_laws_szProcess, params, EG, EL, ↓reduceIte, Nat.reduceEqDiff, Nat.reduceAdd, Nat.reduceSub, Nat.reduceMul, Nat.reduceLeDiff, Nat.reduceLT, Int.reduceLT, Int.reduceLE, Int.reduceEq, Int.reduceToNat, reduceCtorEq, FB, FT, cx_laws_szProcess, cl_laws_szStringS, sem_laws_szStringS, wrapI, neg1_lt, c0, e1]
      first | done | (simp only [Option.some.injEq, Prod.mk.injEq, AV.int.injEq, AV.bool.injEq, AV.str.injEq, true_and, and_true]; omega)
    · have c1 : ¬ n - ((x.Name.size : Nat) : Int) - ((x.Uses.length + tot wtS x.Uses : Nat) : Int) < 0 := by omega
      rcases lft_or (n - ((x.Name.size : Nat) : Int) - ((x.Uses.length + tot wtS x.Uses : Nat) : Int)) (x.Vars.length + tot wtS x.Vars) with ⟨e2, f2⟩ | ⟨e2, f2⟩
      · simp (maxSteps := 10000000) (disch := first | assumption | omega) only [F_laws_szProcess, params, EG, EL, ↓reduceIte, Nat.reduceEqDiff, Nat.reduceAdd, Nat.reduceSub, Nat.reduceMul, Nat.reduceLeDiff, Nat.reduceLT, Int.reduceLT, Int.reduceLE, Int.reduceEq, Int.reduceToNat, reduceCtorEq, FB, FT, cx_laws_szProcess, cl_laws_szStringS, sem_laws_szStringS, wrapI, neg1_lt, c0, e1, c1, e2]
        first | done | (simp only [Option.some.injEq, Prod.mk.injEq, AV.int.injEq, AV.bool.injEq, AV.str.injEq, true_and, and_true]; omega)
      · have c2 : ¬ n - ((x.Name.size : Nat) : Int) - ((x.Uses.length + tot wtS x.Uses : Nat) : Int) - ((x.Vars.length + tot wtS x.Vars : Nat) : Int) < 0 := by omega
        simp (maxSteps := 10000000) (disch := first | assumption | omega) only [F_laws_szProcess, params, EG, EL, ↓reduceIte, Nat.reduceEqDiff, Nat.reduceAdd, Nat.reduceSub, Nat.reduceMul, Nat.reduceLeDiff, Nat.reduceLT, Int.reduceLT, Int.reduceLE, Int.reduceEq, Int.reduceToNat, reduceCtorEq, FB, FT, cx_laws_szProcess, cl_laws_szStringS, sem_laws_szStringS, wrapI, neg1_lt, c0, e1, c1, e2, c2]
        first | done | rfl | (simp only [Option.some.injEq, Prod.mk.injEq, AV.int.injEq, AV.bool.injEq, AV.str.injEq, true_and, and_true]; omega)
theorem loop_laws_szProcessS (xs : List DProcess) (g : ∀ y ∈ xs, gdProcess y) (hl : xs.length ≤ 140737488351232) (n : Int) (h1 : 0 ≤ n) (h2 : n ≤ 4611686018427387904) :
    loopV X_laws_szProcessS 0 [0, 1, 5] [(1, [1]), (0, [4])] B0_laws_szProcessS ⟨[(0, .tree 4 (xs.map cProcess)), (1, .int .i64 n), (5, .int .i64 0)], []⟩ = szR 4 n (tot wtProcess xs) := by
  refine loop_list xs (fun _ m => 0 ≤ m ∧ m ≤ 4611686018427387904) (fun i (m : Int) => ⟨[(0, .tree 4 (xs.map cProcess)), (1, .int .i64 m), (5, .int .i64 ((i : Nat) : Int))], []⟩) (fun rest m => szR 4 m (tot wtProcess rest)) ?_ ?_ n ⟨h1, h2⟩
  · rintro m ⟨m1, m2⟩
    rw [loopV_by B0_laws_szProcessS.eq_1]
    simp only [EG, EL, ↓reduceIte, Nat.reduceEqDiff, Nat.reduceAdd, Nat.reduceSub, Nat.reduceMul, Nat.reduceLeDiff, Nat.reduceLT, Int.reduceLT, Int.reduceLE, Int.reduceEq, Int.reduceToNat, reduceCtorEq, int_lt_irrefl]
    exact szR_zero m1
  · rintro i h x rest m rfl rfl ⟨m1, m2⟩ ih
    have hi : (i : Int) < (xs.length : Int) := by omega
    have hx := g _ (List.getElem_mem h)
    skip
    rw [loopV_by B0_laws_szProcessS.eq_1]
    by_cases hc : m - ((wtProcess xs[i] : Nat) : Int) < 0
    · have hq : lft m (wtProcess xs[i]) = -1 := if_pos hc
      simp (maxSteps := 10000000) (disch := first | assumption | omega) only [EG, EL, ↓reduceIte, Nat.reduceEqDiff, Nat.reduceAdd, Nat.reduceSub, Nat.reduceMul, Nat.reduceLeDiff, Nat.reduceLT, Int.reduceLT, Int.reduceLE, Int.reduceEq, Int.reduceToNat, reduceCtorEq, FB, FT, hi, wrap_succ, getRow _ _ h, cx_laws_szProcessS, cl_laws_szProcess, sem_laws_szProcess, hc, hq, neg1_lt]
      exact szR_neg hc
    · have hq : lft m (wtProcess xs[i]) = m - ((wtProcess xs[i] : Nat) : Int) := if_neg hc
      simp (maxSteps := 10000000) (disch := first | assumption | omega) only [EG, EL, ↓reduceIte, Nat.reduceEqDiff, Nat.reduceAdd, Nat.reduceSub, Nat.reduceMul, Nat.reduceLeDiff, Nat.reduceLT, Int.reduceLT, Int.reduceLE, Int.reduceEq, Int.reduceToNat, reduceCtorEq, FB, FT, hi, wrap_succ, getRow _ _ h, cx_laws_szProcessS, cl_laws_szProcess, sem_laws_szProcess, hc, hq, neg1_lt]
      skip
      rw [ih _ ⟨by omega, by omega⟩]
      exact szR_pos
theorem sem_laws_szProcessS (xs : List DProcess) (h : xs.length ≤ 140737488351232) (g : ∀ y ∈ xs, gdProcess y) (n : Int) (h1 : -1 ≤ n) (h2 : n ≤ 4611686018427387904) : S_laws_szProcessS.sem [.tree 4 (xs.map cProcess), .int .i64 n] = some (.int .i64 (lft n (xs.length + tot wtProcess xs)), []) := by
  rw [sg_laws_szProcessS, sem_go]
  by_cases hc : n - (xs.length : Int) < 0
  · simp (maxSteps := 10000000) (disch := omega) only [F_laws_szProcessS, params, EG, EL, ↓reduceIte, Nat.reduceEqDiff, Nat.reduceAdd, Nat.reduceSub, Nat.reduceMul, Nat.reduceLeDiff, Nat.reduceLT, Int.reduceLT, Int.reduceLE, Int.reduceEq, Int.reduceToNat, reduceCtorEq, FB, FT, cx_laws_szProcessS, cl_laws_szProcess, sem_laws_szProcess, wrapI, hc, lft]
    rw [if_pos (by omega)]
  · simp (maxSteps := 10000000) (disch := first | assumption | omega) only [F_laws_szProcessS, params, EG, EL, ↓reduceIte, Nat.reduceEqDiff, Nat.reduceAdd, Nat.reduceSub, Nat.reduceMul, Nat.reduceLeDiff, Nat.reduceLT, Int.reduceLT, Int.reduceLE, Int.reduceEq, Int.reduceToNat, reduceCtorEq, FB, FT, cx_laws_szProcessS, cl_laws_szProcess, sem_laws_szProcess, wrapI, hc, loop_laws_szProcessS, goE_szR]
    unfold lft
    (repeat' split) <;> first | rfl | omega | (simp only [Option.some.injEq, Prod.mk.injEq, AV.int.injEq, AV.bool.injEq, AV.str.injEq, true_and, and_true]; omega)
theorem sem_laws_szProgram (x : DProgram) (g : gdProgram x) (n : Int) (h1 : -1 ≤ n) (h2 : n ≤ 4611686018427387904) : S_laws_szProgram.sem [.agg (cProgram x), .int .i64 n] = some (.int .i64 (lft n (wtProgram x)), []) := by
  obtain ⟨⟨g0, g0e⟩, ⟨g1, g1e⟩, ⟨g2, g2e⟩⟩ := (show (x.Nodes.length ≤ 140737488351232 ∧ ∀ y ∈ x.Nodes, gdNode y) ∧ (x.Monitors.length ≤ 140737488351232 ∧ ∀ y ∈ x.Monitors, gdMonitor y) ∧ (x.Processes.length ≤ 140737488351232 ∧ ∀ y ∈ x.Processes, gdProcess y) from g)
  skip
  unfold wtProgram
  have kW := lft_or n ((x.Nodes.length + tot wtNode x.Nodes) + (x.Monitors.length + tot wtMonitor x.Monitors) + (x.Processes.length + tot wtProcess x.Processes))
  rw [sg_laws_szProgram, sem_go]
  rcases lft_or (n) (x.Nodes.length + tot wtNode x.Nodes) with ⟨e0, f0⟩ | ⟨e0, f0⟩
  · simp (maxSteps := 10000000) (disch := first | assumption | omega) only [F_laws_szProgram, params, EG, EL, ↓reduceIte, Nat.reduceEqDiff, Nat.reduceAdd, Nat.reduceSub, Nat.reduceMul, Nat.reduceLeDiff, Nat.reduceLT, Int.reduceLT, Int.reduceLE, Int.reduceEq, Int.reduceToNat, reduceCtorEq, FB, FT, cx_laws_szProgram, cl_laws_szNodeS, sem_laws_szNodeS, cl_laws_szMonitorS, sem_laws_szMonitorS, cl_laws_szProcessS, sem_laws_szProcessS, wrapI, neg1_lt, e0]
    first | done | (simp only [Option.some.injEq, Prod.mk.injEq, AV.int.injEq, AV.bool.injEq, AV.str.injEq, true_and, and_true]; omega)
  · have c0 : ¬ n - ((x.Nodes.length + tot wtNode x.Nodes : Nat) : Int) < 0 := by omega
    rcases lft_or (n - ((x.Nodes.length + tot wtNode x.Nodes : Nat) : Int)) (x.Monitors.length + tot wtMonitor x.Monitors) with ⟨e1, f1⟩ | ⟨e1, f1⟩
    · simp (maxSteps := 10000000) (disch := first | assumption | omega) only [F_laws_szProgram, params, EG, EL, ↓reduceIte, Nat.reduceEqDiff, Nat.reduceAdd, Nat.reduceSub, Nat.reduceMul, Nat.reduceLeDiff, Nat.reduceLT, Int.reduceLT, Int.reduceLE, Int.reduceEq, Int.reduceToNat, reduceCtorEq, FB, FT, cx_laws_szProgram, cl_laws_szNodeS, sem_laws_szNodeS, cl_laws_szMonitorS, sem_laws_szMonitorS, cl_laws_szProcessS, sem_laws_szProcessS, wrapI, neg1_lt, e0, c0, e1]
      first | done | (simp only [Option.some.injEq, Prod.mk.injEq, AV.int.injEq, AV.bool.injEq, AV.str.injEq, true_and, and_true]; omega)
    · have c1 : ¬ n - ((x.Nodes.length + tot wtNode x.Nodes : Nat) : Int) - ((x.Monitors.length + tot wtMonitor x.Monitors : Nat) : Int) < 0 := by omega
      rcases lft_or (n - ((x.Nodes.length + tot wtNode x.Nodes : Nat) : Int) - ((x.Monitors.length + tot wtMonitor x.Monitors : Nat) : Int)) (x.Processes.length + tot wtProcess x.Processes) with ⟨e2, f2⟩ | ⟨e2, f2⟩
      · simp (maxSteps := 10000000) (disch := first | assumption | omega) only [F_laws_szProgram, params, EG, EL, ↓reduceIte, Nat.reduceEqDiff, Nat.reduceAdd, Nat.reduceSub, Nat.reduceMul, Nat.reduceLeDiff, Nat.reduceLT, Int.reduceLT, Int.reduceLE, Int.reduceEq, Int.reduceToNat, reduceCtorEq, FB, FT, cx_laws_szProgram, cl_laws_szNodeS, sem_laws_szNodeS, cl_laws_szMonitorS, sem_laws_szMonitorS, cl_laws_szProcessS, sem_laws_szProcessS, wrapI, neg1_lt, e0, c0, e1, c1, e2]
        first | done | (simp only [Option.some.injEq, Prod.mk.injEq, AV.int.injEq, AV.bool.injEq, AV.str.injEq, true_and, and_true]; omega)
      · have c2 : ¬ n - ((x.Nodes.length + tot wtNode x.Nodes : Nat) : Int) - ((x.Monitors.length + tot wtMonitor x.Monitors : Nat) : Int) - ((x.Processes.length + tot wtProcess x.Processes : Nat) : Int) < 0 := by omega
        simp (maxSteps := 10000000) (disch := first | assumption | omega) only [F_laws_szProgram, params, EG, EL, ↓reduceIte, Nat.reduceEqDiff, Nat.reduceAdd, Nat.reduceSub, Nat.reduceMul, Nat.reduceLeDiff, Nat.reduceLT, Int.reduceLT, Int.reduceLE, Int.reduceEq, Int.reduceToNat, reduceCtorEq, FB, FT, cx_laws_szProgram, cl_laws_szNodeS, sem_laws_szNodeS, cl_laws_szMonitorS, sem_laws_szMonitorS, cl_laws_szProcessS, sem_laws_szProcessS, wrapI, neg1_lt, e0, c0, e1, c1, e2, c2]
        first | done | rfl | (simp only [Option.some.injEq, Prod.mk.injEq, AV.int.injEq, AV.bool.injEq, AV.str.injEq, true_and, and_true]; omega)
theorem sem_laws_szImage (x : DImage) (g : gdImage x) (n : Int) (h1 : -1 ≤ n) (h2 : n ≤ 4611686018427387904) : S_laws_szImage.sem [.agg (cImage x), .int .i64 n] = some (.int .i64 (lft n (wtImage x)), []) := by
  obtain ⟨⟨g0, g0e⟩, ⟨g1, g1e⟩, g2⟩ := (show (x.Text.length ≤ 140737488351232 ∧ ∀ y ∈ x.Text, i64 y) ∧ (x.Starts.length ≤ 140737488351232 ∧ ∀ y ∈ x.Starts, i64 y) ∧ i64 x.Size from g)
  skip
  unfold wtImage
  have kW := lft_or n (x.Text.length + x.Starts.length)
  rw [sg_laws_szImage, sem_go]
  rcases lft_or (n) (x.Text.length) with ⟨e0, f0⟩ | ⟨e0, f0⟩
  · simp (maxSteps := 10000000) (disch := first | assumption | omega) only [F_laws_szImage, params, EG, EL, ↓reduceIte, Nat.reduceEqDiff, Nat.reduceAdd, Nat.reduceSub, Nat.reduceMul, Nat.reduceLeDiff, Nat.reduceLT, Int.reduceLT, Int.reduceLE, Int.reduceEq, Int.reduceToNat, reduceCtorEq, FB, FT, cx_laws_szImage, cl_laws_szIntS, sem_laws_szIntS, wrapI, neg1_lt, e0]
    first | done | (simp only [Option.some.injEq, Prod.mk.injEq, AV.int.injEq, AV.bool.injEq, AV.str.injEq, true_and, and_true]; omega)
  · have c0 : ¬ n - ((x.Text.length : Nat) : Int) < 0 := by omega
    rcases lft_or (n - ((x.Text.length : Nat) : Int)) (x.Starts.length) with ⟨e1, f1⟩ | ⟨e1, f1⟩
    · simp (maxSteps := 10000000) (disch := first | assumption | omega) only [F_laws_szImage, params, EG, EL, ↓reduceIte, Nat.reduceEqDiff, Nat.reduceAdd, Nat.reduceSub, Nat.reduceMul, Nat.reduceLeDiff, Nat.reduceLT, Int.reduceLT, Int.reduceLE, Int.reduceEq, Int.reduceToNat, reduceCtorEq, FB, FT, cx_laws_szImage, cl_laws_szIntS, sem_laws_szIntS, wrapI, neg1_lt, e0, c0, e1]
      first | done | (simp only [Option.some.injEq, Prod.mk.injEq, AV.int.injEq, AV.bool.injEq, AV.str.injEq, true_and, and_true]; omega)
    · have c1 : ¬ n - ((x.Text.length : Nat) : Int) - ((x.Starts.length : Nat) : Int) < 0 := by omega
      simp (maxSteps := 10000000) (disch := first | assumption | omega) only [F_laws_szImage, params, EG, EL, ↓reduceIte, Nat.reduceEqDiff, Nat.reduceAdd, Nat.reduceSub, Nat.reduceMul, Nat.reduceLeDiff, Nat.reduceLT, Int.reduceLT, Int.reduceLE, Int.reduceEq, Int.reduceToNat, reduceCtorEq, FB, FT, cx_laws_szImage, cl_laws_szIntS, sem_laws_szIntS, wrapI, neg1_lt, e0, c0, e1, c1]
      first | done | rfl | (simp only [Option.some.injEq, Prod.mk.injEq, AV.int.injEq, AV.bool.injEq, AV.str.injEq, true_and, and_true]; omega)
theorem loop_laws_toIntS (xs : List Int) (hl : xs.length ≤ 1048576) :
    loopV X_laws_toIntS 0 [0, 3, 4] [(1, [3])] B0_laws_toIntS ⟨[(0, .tree 1 (xs.map cI)), (3, .sl ⟨0, none, 0⟩ 1 0 xs.length), (4, .int .i64 0)], [some ⟨false, 0, 1, fillR cI [.int .i64 0] xs 0⟩]⟩ = some (.exit 0, ⟨[(3, .sl ⟨0, none, 0⟩ 1 0 xs.length)], [some ⟨false, 0, 1, xs.map cI⟩]⟩) := by
  refine loop_list xs (fun _ (_ : Unit) => True) (fun i _ => ⟨[(0, .tree 1 (xs.map cI)), (3, .sl ⟨0, none, 0⟩ 1 0 xs.length), (4, .int .i64 ((i : Nat) : Int))], [some ⟨false, 0, 1, fillR cI [.int .i64 0] xs i⟩]⟩) (fun _ _ => some (.exit 0, ⟨[(3, .sl ⟨0, none, 0⟩ 1 0 xs.length)], [some ⟨false, 0, 1, xs.map cI⟩]⟩)) ?_ ?_ () trivial
  · intro _ _
    rw [loopV_by B0_laws_toIntS.eq_1]
    simp only [EG, EL, ↓reduceIte, Nat.reduceEqDiff, Nat.reduceAdd, Nat.reduceSub, Nat.reduceMul, Nat.reduceLeDiff, Nat.reduceLT, Int.reduceLT, Int.reduceLE, Int.reduceEq, Int.reduceToNat, reduceCtorEq, int_lt_irrefl, fillR_end]
  · rintro i h x rest _ rfl rfl _ ih
    have hi : (i : Int) < (xs.length : Int) := by omega
    skip
    have hf := fillR_set (c := cI) (z := [.int .i64 0]) h rfl
    simp only [cI] at hf
    rw [loopV_by B0_laws_toIntS.eq_1]
    simp (maxSteps := 10000000) (disch := first | assumption | omega) only [EG, EL, ↓reduceIte, Nat.reduceEqDiff, Nat.reduceAdd, Nat.reduceSub, Nat.reduceMul, Nat.reduceLeDiff, Nat.reduceLT, Int.reduceLT, Int.reduceLE, Int.reduceEq, Int.reduceToNat, reduceCtorEq, FB, FT, hi, h, wrap_succ, getRow _ _ h, fillR_get h, fillR_length (Nat.le_of_lt h), cx_laws_toIntS]
    simp only [splice_eq, EG, EL, ↓reduceIte, Nat.reduceEqDiff, Nat.reduceAdd, Nat.reduceSub, Nat.reduceMul, Nat.reduceLeDiff, Nat.reduceLT, Int.reduceLT, Int.reduceLE, Int.reduceEq, Int.reduceToNat, reduceCtorEq, hf]
    exact ih () trivial
theorem sem_laws_toIntS (xs : List Int) (h : xs.length ≤ 1048576) : S_laws_toIntS.sem [.tree 1 (xs.map cI)] = some (.tree 1 (xs.map cI), []) := by
  rw [sg_laws_toIntS, sem_go]
  simp (maxSteps := 10000000) (disch := omega) only [F_laws_toIntS, params, EG, EL, ↓reduceIte, Nat.reduceEqDiff, Nat.reduceAdd, Nat.reduceSub, Nat.reduceMul, Nat.reduceLeDiff, Nat.reduceLT, Int.reduceLT, Int.reduceLE, Int.reduceEq, Int.reduceToNat, reduceCtorEq, FB, FT, cx_laws_toIntS, fillR_zero cI, loop_laws_toIntS xs h]
  rw [if_pos (by omega)]
theorem sem_laws_toNode (x : DNode) (h : wtNode x ≤ 1048576) : S_laws_toNode.sem [.agg (cNode x)] = some (.agg (cNode x), []) := by
  unfold wtNode at h
  rw [sg_laws_toNode, sem_go]
  simp (maxSteps := 10000000) (disch := omega) only [F_laws_toNode, params, EG, EL, ↓reduceIte, Nat.reduceEqDiff, Nat.reduceAdd, Nat.reduceSub, Nat.reduceMul, Nat.reduceLeDiff, Nat.reduceLT, Int.reduceLT, Int.reduceLE, Int.reduceEq, Int.reduceToNat, reduceCtorEq, FB, FT, cx_laws_toNode, cl_laws_toIntS, sem_laws_toIntS]
theorem loop_laws_toNodeS (xs : List DNode) (hl : xs.length + tot wtNode xs ≤ 1048576) :
    loopV X_laws_toNodeS 0 [0, 3, 4] [(1, [3])] B0_laws_toNodeS ⟨[(0, .tree 6 (xs.map cNode)), (3, .sl ⟨0, none, 0⟩ 6 0 xs.length), (4, .int .i64 0)], [some ⟨false, 0, 6, fillR cNode [.int .i64 0, .int .i64 0, .str ⟨#[]⟩, .str ⟨#[]⟩, .str ⟨#[]⟩, .tree 1 []] xs 0⟩]⟩ = some (.exit 0, ⟨[(3, .sl ⟨0, none, 0⟩ 6 0 xs.length)], [some ⟨false, 0, 6, xs.map cNode⟩]⟩) := by
  refine loop_list xs (fun _ (_ : Unit) => True) (fun i _ => ⟨[(0, .tree 6 (xs.map cNode)), (3, .sl ⟨0, none, 0⟩ 6 0 xs.length), (4, .int .i64 ((i : Nat) : Int))], [some ⟨false, 0, 6, fillR cNode [.int .i64 0, .int .i64 0, .str ⟨#[]⟩, .str ⟨#[]⟩, .str ⟨#[]⟩, .tree 1 []] xs i⟩]⟩) (fun _ _ => some (.exit 0, ⟨[(3, .sl ⟨0, none, 0⟩ 6 0 xs.length)], [some ⟨false, 0, 6, xs.map cNode⟩]⟩)) ?_ ?_ () trivial
  · intro _ _
    rw [loopV_by B0_laws_toNodeS.eq_1]
    simp only [EG, EL, ↓reduceIte, Nat.reduceEqDiff, Nat.reduceAdd, Nat.reduceSub, Nat.reduceMul, Nat.reduceLeDiff, Nat.reduceLT, Int.reduceLT, Int.reduceLE, Int.reduceEq, Int.reduceToNat, reduceCtorEq, int_lt_irrefl, fillR_end]
  · rintro i h x rest _ rfl rfl _ ih
    have hi : (i : Int) < (xs.length : Int) := by omega
    have hx : wtNode xs[i] ≤ 1048576 := by have := le_tot wtNode (List.getElem_mem h); omega
    have hf := fillR_set (c := cNode) (z := [.int .i64 0, .int .i64 0, .str ⟨#[]⟩, .str ⟨#[]⟩, .str ⟨#[]⟩, .tree 1 []]) h rfl
    simp only [cNode] at hf
    rw [loopV_by B0_laws_toNodeS.eq_1]
    simp (maxSteps := 10000000) (disch := first | assumption | omega) only [EG, EL, ↓reduceIte, Nat.reduceEqDiff, Nat.reduceAdd, Nat.reduceSub, Nat.reduceMul, Nat.reduceLeDiff, Nat.reduceLT, Int.reduceLT, Int.reduceLE, Int.reduceEq, Int.reduceToNat, reduceCtorEq, FB, FT, hi, h, wrap_succ, getRow _ _ h, fillR_get h, fillR_length (Nat.le_of_lt h), cx_laws_toNodeS, cl_laws_toNode, sem_laws_toNode]
    simp only [splice_eq, EG, EL, ↓reduceIte, Nat.reduceEqDiff, Nat.reduceAdd, Nat.reduceSub, Nat.reduceMul, Nat.reduceLeDiff, Nat.reduceLT, Int.reduceLT, Int.reduceLE, Int.reduceEq, Int.reduceToNat, reduceCtorEq, hf]
    exact ih () trivial
theorem sem_laws_toNodeS (xs : List DNode) (h : xs.length + tot wtNode xs ≤ 1048576) : S_laws_toNodeS.sem [.tree 6 (xs.map cNode)] = some (.tree 6 (xs.map cNode), []) := by
  rw [sg_laws_toNodeS, sem_go]
  simp (maxSteps := 10000000) (disch := omega) only [F_laws_toNodeS, params, EG, EL, ↓reduceIte, Nat.reduceEqDiff, Nat.reduceAdd, Nat.reduceSub, Nat.reduceMul, Nat.reduceLeDiff, Nat.reduceLT, Int.reduceLT, Int.reduceLE, Int.reduceEq, Int.reduceToNat, reduceCtorEq, FB, FT, cx_laws_toNodeS, cl_laws_toNode, sem_laws_toNode, fillR_zero cNode, loop_laws_toNodeS xs h]
  rw [if_pos (by omega)]
theorem loop_laws_toStringS (xs : List ByteArray) (hl : xs.length + tot wtS xs ≤ 1048576) :
    loopV X_laws_toStringS 0 [0, 3, 4] [(1, [3])] B0_laws_toStringS ⟨[(0, .tree 1 (xs.map cS)), (3, .sl ⟨0, none, 0⟩ 1 0 xs.length), (4, .int .i64 0)], [some ⟨false, 0, 1, fillR cS [.str ⟨#[]⟩] xs 0⟩]⟩ = some (.exit 0, ⟨[(3, .sl ⟨0, none, 0⟩ 1 0 xs.length)], [some ⟨false, 0, 1, xs.map cS⟩]⟩) := by
  refine loop_list xs (fun _ (_ : Unit) => True) (fun i _ => ⟨[(0, .tree 1 (xs.map cS)), (3, .sl ⟨0, none, 0⟩ 1 0 xs.length), (4, .int .i64 ((i : Nat) : Int))], [some ⟨false, 0, 1, fillR cS [.str ⟨#[]⟩] xs i⟩]⟩) (fun _ _ => some (.exit 0, ⟨[(3, .sl ⟨0, none, 0⟩ 1 0 xs.length)], [some ⟨false, 0, 1, xs.map cS⟩]⟩)) ?_ ?_ () trivial
  · intro _ _
    rw [loopV_by B0_laws_toStringS.eq_1]
    simp only [EG, EL, ↓reduceIte, Nat.reduceEqDiff, Nat.reduceAdd, Nat.reduceSub, Nat.reduceMul, Nat.reduceLeDiff, Nat.reduceLT, Int.reduceLT, Int.reduceLE, Int.reduceEq, Int.reduceToNat, reduceCtorEq, int_lt_irrefl, fillR_end]
  · rintro i h x rest _ rfl rfl _ ih
    have hi : (i : Int) < (xs.length : Int) := by omega
    skip
    have hf := fillR_set (c := cS) (z := [.str ⟨#[]⟩]) h rfl
    simp only [cS] at hf
    rw [loopV_by B0_laws_toStringS.eq_1]
    simp (maxSteps := 10000000) (disch := first | assumption | omega) only [EG, EL, ↓reduceIte, Nat.reduceEqDiff, Nat.reduceAdd, Nat.reduceSub, Nat.reduceMul, Nat.reduceLeDiff, Nat.reduceLT, Int.reduceLT, Int.reduceLE, Int.reduceEq, Int.reduceToNat, reduceCtorEq, FB, FT, hi, h, wrap_succ, getRow _ _ h, fillR_get h, fillR_length (Nat.le_of_lt h), cx_laws_toStringS]
    simp only [splice_eq, EG, EL, ↓reduceIte, Nat.reduceEqDiff, Nat.reduceAdd, Nat.reduceSub, Nat.reduceMul, Nat.reduceLeDiff, Nat.reduceLT, Int.reduceLT, Int.reduceLE, Int.reduceEq, Int.reduceToNat, reduceCtorEq, hf]
    exact ih () trivial
theorem sem_laws_toStringS (xs : List ByteArray) (h : xs.length + tot wtS xs ≤ 1048576) : S_laws_toStringS.sem [.tree 1 (xs.map cS)] = some (.tree 1 (xs.map cS), []) := by
  rw [sg_laws_toStringS, sem_go]
  simp (maxSteps := 10000000) (disch := omega) only [F_laws_toStringS, params, EG, EL, ↓reduceIte, Nat.reduceEqDiff, Nat.reduceAdd, Nat.reduceSub, Nat.reduceMul, Nat.reduceLeDiff, Nat.reduceLT, Int.reduceLT, Int.reduceLE, Int.reduceEq, Int.reduceToNat, reduceCtorEq, FB, FT, cx_laws_toStringS, fillR_zero cS, loop_laws_toStringS xs h]
  rw [if_pos (by omega)]
theorem sem_laws_toEntry (x : DEntry) (h : wtEntry x ≤ 1048576) : S_laws_toEntry.sem [.agg (cEntry x)] = some (.agg (cEntry x), []) := by
  unfold wtEntry at h
  rw [sg_laws_toEntry, sem_go]
  simp (maxSteps := 10000000) (disch := omega) only [F_laws_toEntry, params, EG, EL, ↓reduceIte, Nat.reduceEqDiff, Nat.reduceAdd, Nat.reduceSub, Nat.reduceMul, Nat.reduceLeDiff, Nat.reduceLT, Int.reduceLT, Int.reduceLE, Int.reduceEq, Int.reduceToNat, reduceCtorEq, FB, FT, cx_laws_toEntry]
theorem loop_laws_toEntryS (xs : List DEntry) (hl : xs.length + tot wtEntry xs ≤ 1048576) :
    loopV X_laws_toEntryS 0 [0, 3, 4] [(1, [3])] B0_laws_toEntryS ⟨[(0, .tree 3 (xs.map cEntry)), (3, .sl ⟨0, none, 0⟩ 3 0 xs.length), (4, .int .i64 0)], [some ⟨false, 0, 3, fillR cEntry [.str ⟨#[]⟩, .str ⟨#[]⟩, .int .i64 0] xs 0⟩]⟩ = some (.exit 0, ⟨[(3, .sl ⟨0, none, 0⟩ 3 0 xs.length)], [some ⟨false, 0, 3, xs.map cEntry⟩]⟩) := by
  refine loop_list xs (fun _ (_ : Unit) => True) (fun i _ => ⟨[(0, .tree 3 (xs.map cEntry)), (3, .sl ⟨0, none, 0⟩ 3 0 xs.length), (4, .int .i64 ((i : Nat) : Int))], [some ⟨false, 0, 3, fillR cEntry [.str ⟨#[]⟩, .str ⟨#[]⟩, .int .i64 0] xs i⟩]⟩) (fun _ _ => some (.exit 0, ⟨[(3, .sl ⟨0, none, 0⟩ 3 0 xs.length)], [some ⟨false, 0, 3, xs.map cEntry⟩]⟩)) ?_ ?_ () trivial
  · intro _ _
    rw [loopV_by B0_laws_toEntryS.eq_1]
    simp only [EG, EL, ↓reduceIte, Nat.reduceEqDiff, Nat.reduceAdd, Nat.reduceSub, Nat.reduceMul, Nat.reduceLeDiff, Nat.reduceLT, Int.reduceLT, Int.reduceLE, Int.reduceEq, Int.reduceToNat, reduceCtorEq, int_lt_irrefl, fillR_end]
  · rintro i h x rest _ rfl rfl _ ih
    have hi : (i : Int) < (xs.length : Int) := by omega
    have hx : wtEntry xs[i] ≤ 1048576 := by have := le_tot wtEntry (List.getElem_mem h); omega
    have hf := fillR_set (c := cEntry) (z := [.str ⟨#[]⟩, .str ⟨#[]⟩, .int .i64 0]) h rfl
    simp only [cEntry] at hf
    rw [loopV_by B0_laws_toEntryS.eq_1]
    simp (maxSteps := 10000000) (disch := first | assumption | omega) only [EG, EL, ↓reduceIte, Nat.reduceEqDiff, Nat.reduceAdd, Nat.reduceSub, Nat.reduceMul, Nat.reduceLeDiff, Nat.reduceLT, Int.reduceLT, Int.reduceLE, Int.reduceEq, Int.reduceToNat, reduceCtorEq, FB, FT, hi, h, wrap_succ, getRow _ _ h, fillR_get h, fillR_length (Nat.le_of_lt h), cx_laws_toEntryS, cl_laws_toEntry, sem_laws_toEntry]
    simp only [splice_eq, EG, EL, ↓reduceIte, Nat.reduceEqDiff, Nat.reduceAdd, Nat.reduceSub, Nat.reduceMul, Nat.reduceLeDiff, Nat.reduceLT, Int.reduceLT, Int.reduceLE, Int.reduceEq, Int.reduceToNat, reduceCtorEq, hf]
    exact ih () trivial
theorem sem_laws_toEntryS (xs : List DEntry) (h : xs.length + tot wtEntry xs ≤ 1048576) : S_laws_toEntryS.sem [.tree 3 (xs.map cEntry)] = some (.tree 3 (xs.map cEntry), []) := by
  rw [sg_laws_toEntryS, sem_go]
  simp (maxSteps := 10000000) (disch := omega) only [F_laws_toEntryS, params, EG, EL, ↓reduceIte, Nat.reduceEqDiff, Nat.reduceAdd, Nat.reduceSub, Nat.reduceMul, Nat.reduceLeDiff, Nat.reduceLT, Int.reduceLT, Int.reduceLE, Int.reduceEq, Int.reduceToNat, reduceCtorEq, FB, FT, cx_laws_toEntryS, cl_laws_toEntry, sem_laws_toEntry, fillR_zero cEntry, loop_laws_toEntryS xs h]
  rw [if_pos (by omega)]
theorem sem_laws_toMonitor (x : DMonitor) (h : wtMonitor x ≤ 1048576) : S_laws_toMonitor.sem [.agg (cMonitor x)] = some (.agg (cMonitor x), []) := by
  unfold wtMonitor at h
  rw [sg_laws_toMonitor, sem_go]
  simp (maxSteps := 10000000) (disch := omega) only [F_laws_toMonitor, params, EG, EL, ↓reduceIte, Nat.reduceEqDiff, Nat.reduceAdd, Nat.reduceSub, Nat.reduceMul, Nat.reduceLeDiff, Nat.reduceLT, Int.reduceLT, Int.reduceLE, Int.reduceEq, Int.reduceToNat, reduceCtorEq, FB, FT, cx_laws_toMonitor, cl_laws_toStringS, sem_laws_toStringS, cl_laws_toEntryS, sem_laws_toEntryS]
theorem loop_laws_toMonitorS (xs : List DMonitor) (hl : xs.length + tot wtMonitor xs ≤ 1048576) :
    loopV X_laws_toMonitorS 0 [0, 3, 4] [(1, [3])] B0_laws_toMonitorS ⟨[(0, .tree 4 (xs.map cMonitor)), (3, .sl ⟨0, none, 0⟩ 4 0 xs.length), (4, .int .i64 0)], [some ⟨false, 0, 4, fillR cMonitor [.str ⟨#[]⟩, .tree 1 [], .tree 1 [], .tree 3 []] xs 0⟩]⟩ = some (.exit 0, ⟨[(3, .sl ⟨0, none, 0⟩ 4 0 xs.length)], [some ⟨false, 0, 4, xs.map cMonitor⟩]⟩) := by
  refine loop_list xs (fun _ (_ : Unit) => True) (fun i _ => ⟨[(0, .tree 4 (xs.map cMonitor)), (3, .sl ⟨0, none, 0⟩ 4 0 xs.length), (4, .int .i64 ((i : Nat) : Int))], [some ⟨false, 0, 4, fillR cMonitor [.str ⟨#[]⟩, .tree 1 [], .tree 1 [], .tree 3 []] xs i⟩]⟩) (fun _ _ => some (.exit 0, ⟨[(3, .sl ⟨0, none, 0⟩ 4 0 xs.length)], [some ⟨false, 0, 4, xs.map cMonitor⟩]⟩)) ?_ ?_ () trivial
  · intro _ _
    rw [loopV_by B0_laws_toMonitorS.eq_1]
    simp only [EG, EL, ↓reduceIte, Nat.reduceEqDiff, Nat.reduceAdd, Nat.reduceSub, Nat.reduceMul, Nat.reduceLeDiff, Nat.reduceLT, Int.reduceLT, Int.reduceLE, Int.reduceEq, Int.reduceToNat, reduceCtorEq, int_lt_irrefl, fillR_end]
  · rintro i h x rest _ rfl rfl _ ih
    have hi : (i : Int) < (xs.length : Int) := by omega
    have hx : wtMonitor xs[i] ≤ 1048576 := by have := le_tot wtMonitor (List.getElem_mem h); omega
    have hf := fillR_set (c := cMonitor) (z := [.str ⟨#[]⟩, .tree 1 [], .tree 1 [], .tree 3 []]) h rfl
    simp only [cMonitor] at hf
    rw [loopV_by B0_laws_toMonitorS.eq_1]
    simp (maxSteps := 10000000) (disch := first | assumption | omega) only [EG, EL, ↓reduceIte, Nat.reduceEqDiff, Nat.reduceAdd, Nat.reduceSub, Nat.reduceMul, Nat.reduceLeDiff, Nat.reduceLT, Int.reduceLT, Int.reduceLE, Int.reduceEq, Int.reduceToNat, reduceCtorEq, FB, FT, hi, h, wrap_succ, getRow _ _ h, fillR_get h, fillR_length (Nat.le_of_lt h), cx_laws_toMonitorS, cl_laws_toMonitor, sem_laws_toMonitor]
    simp only [splice_eq, EG, EL, ↓reduceIte, Nat.reduceEqDiff, Nat.reduceAdd, Nat.reduceSub, Nat.reduceMul, Nat.reduceLeDiff, Nat.reduceLT, Int.reduceLT, Int.reduceLE, Int.reduceEq, Int.reduceToNat, reduceCtorEq, hf]
    exact ih () trivial
theorem sem_laws_toMonitorS (xs : List DMonitor) (h : xs.length + tot wtMonitor xs ≤ 1048576) : S_laws_toMonitorS.sem [.tree 4 (xs.map cMonitor)] = some (.tree 4 (xs.map cMonitor), []) := by
  rw [sg_laws_toMonitorS, sem_go]
  simp (maxSteps := 10000000) (disch := omega) only [F_laws_toMonitorS, params, EG, EL, ↓reduceIte, Nat.reduceEqDiff, Nat.reduceAdd, Nat.reduceSub, Nat.reduceMul, Nat.reduceLeDiff, Nat.reduceLT, Int.reduceLT, Int.reduceLE, Int.reduceEq, Int.reduceToNat, reduceCtorEq, FB, FT, cx_laws_toMonitorS, cl_laws_toMonitor, sem_laws_toMonitor, fillR_zero cMonitor, loop_laws_toMonitorS xs h]
  rw [if_pos (by omega)]
theorem sem_laws_toProcess (x : DProcess) (h : wtProcess x ≤ 1048576) : S_laws_toProcess.sem [.agg (cProcess x)] = some (.agg (cProcess x), []) := by
  unfold wtProcess at h
  rw [sg_laws_toProcess, sem_go]
  simp (maxSteps := 10000000) (disch := omega) only [F_laws_toProcess, params, EG, EL, ↓reduceIte, Nat.reduceEqDiff, Nat.reduceAdd, Nat.reduceSub, Nat.reduceMul, Nat.reduceLeDiff, Nat.reduceLT, Int.reduceLT, Int.reduceLE, Int.reduceEq, Int.reduceToNat, reduceCtorEq, FB, FT, cx_laws_toProcess, cl_laws_toStringS, sem_laws_toStringS]
theorem loop_laws_toProcessS (xs : List DProcess) (hl : xs.length + tot wtProcess xs ≤ 1048576) :
    loopV X_laws_toProcessS 0 [0, 3, 4] [(1, [3])] B0_laws_toProcessS ⟨[(0, .tree 4 (xs.map cProcess)), (3, .sl ⟨0, none, 0⟩ 4 0 xs.length), (4, .int .i64 0)], [some ⟨false, 0, 4, fillR cProcess [.str ⟨#[]⟩, .tree 1 [], .tree 1 [], .int .i64 0] xs 0⟩]⟩ = some (.exit 0, ⟨[(3, .sl ⟨0, none, 0⟩ 4 0 xs.length)], [some ⟨false, 0, 4, xs.map cProcess⟩]⟩) := by
  refine loop_list xs (fun _ (_ : Unit) => True) (fun i _ => ⟨[(0, .tree 4 (xs.map cProcess)), (3, .sl ⟨0, none, 0⟩ 4 0 xs.length), (4, .int .i64 ((i : Nat) : Int))], [some ⟨false, 0, 4, fillR cProcess [.str ⟨#[]⟩, .tree 1 [], .tree 1 [], .int .i64 0] xs i⟩]⟩) (fun _ _ => some (.exit 0, ⟨[(3, .sl ⟨0, none, 0⟩ 4 0 xs.length)], [some ⟨false, 0, 4, xs.map cProcess⟩]⟩)) ?_ ?_ () trivial
  · intro _ _
    rw [loopV_by B0_laws_toProcessS.eq_1]
    simp only [EG, EL, ↓reduceIte, Nat.reduceEqDiff, Nat.reduceAdd, Nat.reduceSub, Nat.reduceMul, Nat.reduceLeDiff, Nat.reduceLT, Int.reduceLT, Int.reduceLE, Int.reduceEq, Int.reduceToNat, reduceCtorEq, int_lt_irrefl, fillR_end]
  · rintro i h x rest _ rfl rfl _ ih
    have hi : (i : Int) < (xs.length : Int) := by omega
    have hx : wtProcess xs[i] ≤ 1048576 := by have := le_tot wtProcess (List.getElem_mem h); omega
    have hf := fillR_set (c := cProcess) (z := [.str ⟨#[]⟩, .tree 1 [], .tree 1 [], .int .i64 0]) h rfl
    simp only [cProcess] at hf
    rw [loopV_by B0_laws_toProcessS.eq_1]
    simp (maxSteps := 10000000) (disch := first | assumption | omega) only [EG, EL, ↓reduceIte, Nat.reduceEqDiff, Nat.reduceAdd, Nat.reduceSub, Nat.reduceMul, Nat.reduceLeDiff, Nat.reduceLT, Int.reduceLT, Int.reduceLE, Int.reduceEq, Int.reduceToNat, reduceCtorEq, FB, FT, hi, h, wrap_succ, getRow _ _ h, fillR_get h, fillR_length (Nat.le_of_lt h), cx_laws_toProcessS, cl_laws_toProcess, sem_laws_toProcess]
    simp only [splice_eq, EG, EL, ↓reduceIte, Nat.reduceEqDiff, Nat.reduceAdd, Nat.reduceSub, Nat.reduceMul, Nat.reduceLeDiff, Nat.reduceLT, Int.reduceLT, Int.reduceLE, Int.reduceEq, Int.reduceToNat, reduceCtorEq, hf]
    exact ih () trivial
theorem sem_laws_toProcessS (xs : List DProcess) (h : xs.length + tot wtProcess xs ≤ 1048576) : S_laws_toProcessS.sem [.tree 4 (xs.map cProcess)] = some (.tree 4 (xs.map cProcess), []) := by
  rw [sg_laws_toProcessS, sem_go]
  simp (maxSteps := 10000000) (disch := omega) only [F_laws_toProcessS, params, EG, EL, ↓reduceIte, Nat.reduceEqDiff, Nat.reduceAdd, Nat.reduceSub, Nat.reduceMul, Nat.reduceLeDiff, Nat.reduceLT, Int.reduceLT, Int.reduceLE, Int.reduceEq, Int.reduceToNat, reduceCtorEq, FB, FT, cx_laws_toProcessS, cl_laws_toProcess, sem_laws_toProcess, fillR_zero cProcess, loop_laws_toProcessS xs h]
  rw [if_pos (by omega)]
theorem sem_laws_toProgram (x : DProgram) (h : wtProgram x ≤ 1048576) : S_laws_toProgram.sem [.agg (cProgram x)] = some (.agg (cProgram x), []) := by
  unfold wtProgram at h
  rw [sg_laws_toProgram, sem_go]
  simp (maxSteps := 10000000) (disch := omega) only [F_laws_toProgram, params, EG, EL, ↓reduceIte, Nat.reduceEqDiff, Nat.reduceAdd, Nat.reduceSub, Nat.reduceMul, Nat.reduceLeDiff, Nat.reduceLT, Int.reduceLT, Int.reduceLE, Int.reduceEq, Int.reduceToNat, reduceCtorEq, FB, FT, cx_laws_toProgram, cl_laws_toNodeS, sem_laws_toNodeS, cl_laws_toMonitorS, sem_laws_toMonitorS, cl_laws_toProcessS, sem_laws_toProcessS]
theorem sem_laws_toImage (x : DImage) (h : wtImage x ≤ 1048576) : S_laws_toImage.sem [.agg (cImage x)] = some (.agg (cImage x), []) := by
  unfold wtImage at h
  rw [sg_laws_toImage, sem_go]
  simp (maxSteps := 10000000) (disch := omega) only [F_laws_toImage, params, EG, EL, ↓reduceIte, Nat.reduceEqDiff, Nat.reduceAdd, Nat.reduceSub, Nat.reduceMul, Nat.reduceLeDiff, Nat.reduceLT, Int.reduceLT, Int.reduceLE, Int.reduceEq, Int.reduceToNat, reduceCtorEq, FB, FT, cx_laws_toImage, cl_laws_toIntS, sem_laws_toIntS]
theorem loop_laws_eqIntS (xs : List Int) (hl : xs.length ≤ 1073741824) :
    loopV X_laws_eqIntS 0 [0, 1, 5] [(1, []), (0, [4])] B0_laws_eqIntS ⟨[(0, .tree 1 (xs.map cI)), (1, .tree 1 (xs.map cI)), (5, .int .i64 0)], []⟩ = some (.exit 0, ⟨[], []⟩) := by
  refine loop_list xs (fun _ (_ : Unit) => True) (fun i _ => ⟨[(0, .tree 1 (xs.map cI)), (1, .tree 1 (xs.map cI)), (5, .int .i64 ((i : Nat) : Int))], []⟩) (fun _ _ => some (.exit 0, ⟨[], []⟩)) ?_ ?_ () trivial
  · intro _ _
    rw [loopV_by B0_laws_eqIntS.eq_1]
    simp only [EG, EL, ↓reduceIte, Nat.reduceEqDiff, Nat.reduceAdd, Nat.reduceSub, Nat.reduceMul, Nat.reduceLeDiff, Nat.reduceLT, Int.reduceLT, Int.reduceLE, Int.reduceEq, Int.reduceToNat, reduceCtorEq, int_lt_irrefl]
  · rintro i h x rest _ rfl rfl _ ih
    have hi : (i : Int) < (xs.length : Int) := by omega
    skip
    rw [loopV_by B0_laws_eqIntS.eq_1]
    simp (maxSteps := 10000000) (disch := first | assumption | omega) only [EG, EL, ↓reduceIte, Nat.reduceEqDiff, Nat.reduceAdd, Nat.reduceSub, Nat.reduceMul, Nat.reduceLeDiff, Nat.reduceLT, Int.reduceLT, Int.reduceLE, Int.reduceEq, Int.reduceToNat, reduceCtorEq, FB, FT, hi, wrap_succ, getRow _ _ h, cx_laws_eqIntS]
    exact ih () trivial
theorem sem_laws_eqIntS (xs : List Int) (h : xs.length ≤ 1073741824) : S_laws_eqIntS.sem [.tree 1 (xs.map cI), .tree 1 (xs.map cI)] = some (.bool true, []) := by
  rw [sg_laws_eqIntS, sem_go]
  simp (maxSteps := 10000000) (disch := omega) only [F_laws_eqIntS, params, EG, EL, ↓reduceIte, Nat.reduceEqDiff, Nat.reduceAdd, Nat.reduceSub, Nat.reduceMul, Nat.reduceLeDiff, Nat.reduceLT, Int.reduceLT, Int.reduceLE, Int.reduceEq, Int.reduceToNat, reduceCtorEq, FB, FT, cx_laws_eqIntS, loop_laws_eqIntS xs h]
theorem sem_laws_eqGate (x : DGate) (h : wtGate x ≤ 1073741824) : S_laws_eqGate.sem [.agg (cGate x), .agg (cGate x)] = some (.bool true, []) := by
  unfold wtGate at h
  rw [sg_laws_eqGate, sem_go]
  simp (maxSteps := 10000000) (disch := omega) only [F_laws_eqGate, params, EG, EL, ↓reduceIte, Nat.reduceEqDiff, Nat.reduceAdd, Nat.reduceSub, Nat.reduceMul, Nat.reduceLeDiff, Nat.reduceLT, Int.reduceLT, Int.reduceLE, Int.reduceEq, Int.reduceToNat, reduceCtorEq, FB, FT, cx_laws_eqGate, cl_laws_eqIntS, sem_laws_eqIntS]
theorem loop_laws_eqGateS (xs : List DGate) (hl : xs.length + tot wtGate xs ≤ 1073741824) :
    loopV X_laws_eqGateS 0 [0, 1, 5] [(1, []), (0, [4])] B0_laws_eqGateS ⟨[(0, .tree 3 (xs.map cGate)), (1, .tree 3 (xs.map cGate)), (5, .int .i64 0)], []⟩ = some (.exit 0, ⟨[], []⟩) := by
  refine loop_list xs (fun _ (_ : Unit) => True) (fun i _ => ⟨[(0, .tree 3 (xs.map cGate)), (1, .tree 3 (xs.map cGate)), (5, .int .i64 ((i : Nat) : Int))], []⟩) (fun _ _ => some (.exit 0, ⟨[], []⟩)) ?_ ?_ () trivial
  · intro _ _
    rw [loopV_by B0_laws_eqGateS.eq_1]
    simp only [EG, EL, ↓reduceIte, Nat.reduceEqDiff, Nat.reduceAdd, Nat.reduceSub, Nat.reduceMul, Nat.reduceLeDiff, Nat.reduceLT, Int.reduceLT, Int.reduceLE, Int.reduceEq, Int.reduceToNat, reduceCtorEq, int_lt_irrefl]
  · rintro i h x rest _ rfl rfl _ ih
    have hi : (i : Int) < (xs.length : Int) := by omega
    have hx : wtGate xs[i] ≤ 1073741824 := by have := le_tot wtGate (List.getElem_mem h); omega
    rw [loopV_by B0_laws_eqGateS.eq_1]
    simp (maxSteps := 10000000) (disch := first | assumption | omega) only [EG, EL, ↓reduceIte, Nat.reduceEqDiff, Nat.reduceAdd, Nat.reduceSub, Nat.reduceMul, Nat.reduceLeDiff, Nat.reduceLT, Int.reduceLT, Int.reduceLE, Int.reduceEq, Int.reduceToNat, reduceCtorEq, FB, FT, hi, wrap_succ, getRow _ _ h, cx_laws_eqGateS, cl_laws_eqGate, sem_laws_eqGate]
    exact ih () trivial
theorem sem_laws_eqGateS (xs : List DGate) (h : xs.length + tot wtGate xs ≤ 1073741824) : S_laws_eqGateS.sem [.tree 3 (xs.map cGate), .tree 3 (xs.map cGate)] = some (.bool true, []) := by
  rw [sg_laws_eqGateS, sem_go]
  simp (maxSteps := 10000000) (disch := omega) only [F_laws_eqGateS, params, EG, EL, ↓reduceIte, Nat.reduceEqDiff, Nat.reduceAdd, Nat.reduceSub, Nat.reduceMul, Nat.reduceLeDiff, Nat.reduceLT, Int.reduceLT, Int.reduceLE, Int.reduceEq, Int.reduceToNat, reduceCtorEq, FB, FT, cx_laws_eqGateS, cl_laws_eqGate, sem_laws_eqGate, loop_laws_eqGateS xs h]
theorem sem_laws_eqCore (x : DCore) (h : wtCore x ≤ 1073741824) : S_laws_eqCore.sem [.agg (cCore x), .agg (cCore x)] = some (.bool true, []) := by
  unfold wtCore at h
  rw [sg_laws_eqCore, sem_go]
  simp (maxSteps := 10000000) (disch := omega) only [F_laws_eqCore, params, EG, EL, ↓reduceIte, Nat.reduceEqDiff, Nat.reduceAdd, Nat.reduceSub, Nat.reduceMul, Nat.reduceLeDiff, Nat.reduceLT, Int.reduceLT, Int.reduceLE, Int.reduceEq, Int.reduceToNat, reduceCtorEq, FB, FT, cx_laws_eqCore, cl_laws_eqIntS, sem_laws_eqIntS]
theorem loop_laws_eqCoreS (xs : List DCore) (hl : xs.length + tot wtCore xs ≤ 1073741824) :
    loopV X_laws_eqCoreS 0 [0, 1, 5] [(1, []), (0, [4])] B0_laws_eqCoreS ⟨[(0, .tree 3 (xs.map cCore)), (1, .tree 3 (xs.map cCore)), (5, .int .i64 0)], []⟩ = some (.exit 0, ⟨[], []⟩) := by
  refine loop_list xs (fun _ (_ : Unit) => True) (fun i _ => ⟨[(0, .tree 3 (xs.map cCore)), (1, .tree 3 (xs.map cCore)), (5, .int .i64 ((i : Nat) : Int))], []⟩) (fun _ _ => some (.exit 0, ⟨[], []⟩)) ?_ ?_ () trivial
  · intro _ _
    rw [loopV_by B0_laws_eqCoreS.eq_1]
    simp only [EG, EL, ↓reduceIte, Nat.reduceEqDiff, Nat.reduceAdd, Nat.reduceSub, Nat.reduceMul, Nat.reduceLeDiff, Nat.reduceLT, Int.reduceLT, Int.reduceLE, Int.reduceEq, Int.reduceToNat, reduceCtorEq, int_lt_irrefl]
  · rintro i h x rest _ rfl rfl _ ih
    have hi : (i : Int) < (xs.length : Int) := by omega
    have hx : wtCore xs[i] ≤ 1073741824 := by have := le_tot wtCore (List.getElem_mem h); omega
    rw [loopV_by B0_laws_eqCoreS.eq_1]
    simp (maxSteps := 10000000) (disch := first | assumption | omega) only [EG, EL, ↓reduceIte, Nat.reduceEqDiff, Nat.reduceAdd, Nat.reduceSub, Nat.reduceMul, Nat.reduceLeDiff, Nat.reduceLT, Int.reduceLT, Int.reduceLE, Int.reduceEq, Int.reduceToNat, reduceCtorEq, FB, FT, hi, wrap_succ, getRow _ _ h, cx_laws_eqCoreS, cl_laws_eqCore, sem_laws_eqCore]
    exact ih () trivial
theorem sem_laws_eqCoreS (xs : List DCore) (h : xs.length + tot wtCore xs ≤ 1073741824) : S_laws_eqCoreS.sem [.tree 3 (xs.map cCore), .tree 3 (xs.map cCore)] = some (.bool true, []) := by
  rw [sg_laws_eqCoreS, sem_go]
  simp (maxSteps := 10000000) (disch := omega) only [F_laws_eqCoreS, params, EG, EL, ↓reduceIte, Nat.reduceEqDiff, Nat.reduceAdd, Nat.reduceSub, Nat.reduceMul, Nat.reduceLeDiff, Nat.reduceLT, Int.reduceLT, Int.reduceLE, Int.reduceEq, Int.reduceToNat, reduceCtorEq, FB, FT, cx_laws_eqCoreS, cl_laws_eqCore, sem_laws_eqCore, loop_laws_eqCoreS xs h]
theorem loop_laws_eqBoolS (xs : List Bool) (hl : xs.length ≤ 1073741824) :
    loopV X_laws_eqBoolS 0 [0, 1, 5] [(1, []), (0, [4])] B0_laws_eqBoolS ⟨[(0, .tree 1 (xs.map cB)), (1, .tree 1 (xs.map cB)), (5, .int .i64 0)], []⟩ = some (.exit 0, ⟨[], []⟩) := by
  refine loop_list xs (fun _ (_ : Unit) => True) (fun i _ => ⟨[(0, .tree 1 (xs.map cB)), (1, .tree 1 (xs.map cB)), (5, .int .i64 ((i : Nat) : Int))], []⟩) (fun _ _ => some (.exit 0, ⟨[], []⟩)) ?_ ?_ () trivial
  · intro _ _
    rw [loopV_by B0_laws_eqBoolS.eq_1]
    simp only [EG, EL, ↓reduceIte, Nat.reduceEqDiff, Nat.reduceAdd, Nat.reduceSub, Nat.reduceMul, Nat.reduceLeDiff, Nat.reduceLT, Int.reduceLT, Int.reduceLE, Int.reduceEq, Int.reduceToNat, reduceCtorEq, int_lt_irrefl]
  · rintro i h x rest _ rfl rfl _ ih
    have hi : (i : Int) < (xs.length : Int) := by omega
    skip
    rw [loopV_by B0_laws_eqBoolS.eq_1]
    simp (maxSteps := 10000000) (disch := first | assumption | omega) only [EG, EL, ↓reduceIte, Nat.reduceEqDiff, Nat.reduceAdd, Nat.reduceSub, Nat.reduceMul, Nat.reduceLeDiff, Nat.reduceLT, Int.reduceLT, Int.reduceLE, Int.reduceEq, Int.reduceToNat, reduceCtorEq, FB, FT, hi, wrap_succ, getRow _ _ h, cx_laws_eqBoolS]
    exact ih () trivial
theorem sem_laws_eqBoolS (xs : List Bool) (h : xs.length ≤ 1073741824) : S_laws_eqBoolS.sem [.tree 1 (xs.map cB), .tree 1 (xs.map cB)] = some (.bool true, []) := by
  rw [sg_laws_eqBoolS, sem_go]
  simp (maxSteps := 10000000) (disch := omega) only [F_laws_eqBoolS, params, EG, EL, ↓reduceIte, Nat.reduceEqDiff, Nat.reduceAdd, Nat.reduceSub, Nat.reduceMul, Nat.reduceLeDiff, Nat.reduceLT, Int.reduceLT, Int.reduceLE, Int.reduceEq, Int.reduceToNat, reduceCtorEq, FB, FT, cx_laws_eqBoolS, loop_laws_eqBoolS xs h]
theorem sem_laws_eqKernel (x : DKernel) (h : wtKernel x ≤ 1073741824) : S_laws_eqKernel.sem [.agg (cKernel x), .agg (cKernel x)] = some (.bool true, []) := by
  unfold wtKernel at h
  rw [sg_laws_eqKernel, sem_go]
  simp (maxSteps := 10000000) (disch := omega) only [F_laws_eqKernel, params, EG, EL, ↓reduceIte, Nat.reduceEqDiff, Nat.reduceAdd, Nat.reduceSub, Nat.reduceMul, Nat.reduceLeDiff, Nat.reduceLT, Int.reduceLT, Int.reduceLE, Int.reduceEq, Int.reduceToNat, reduceCtorEq, FB, FT, cx_laws_eqKernel, cl_laws_eqGateS, sem_laws_eqGateS, cl_laws_eqIntS, sem_laws_eqIntS, cl_laws_eqCoreS, sem_laws_eqCoreS, cl_laws_eqBoolS, sem_laws_eqBoolS]
theorem sem_laws_eqNode (x : DNode) (h : wtNode x ≤ 1073741824) : S_laws_eqNode.sem [.agg (cNode x), .agg (cNode x)] = some (.bool true, []) := by
  unfold wtNode at h
  rw [sg_laws_eqNode, sem_go]
  simp (maxSteps := 10000000) (disch := omega) only [F_laws_eqNode, params, EG, EL, ↓reduceIte, Nat.reduceEqDiff, Nat.reduceAdd, Nat.reduceSub, Nat.reduceMul, Nat.reduceLeDiff, Nat.reduceLT, Int.reduceLT, Int.reduceLE, Int.reduceEq, Int.reduceToNat, reduceCtorEq, FB, FT, cx_laws_eqNode, cl_laws_eqIntS, sem_laws_eqIntS]
theorem loop_laws_eqNodeS (xs : List DNode) (hl : xs.length + tot wtNode xs ≤ 1073741824) :
    loopV X_laws_eqNodeS 0 [0, 1, 5] [(1, []), (0, [4])] B0_laws_eqNodeS ⟨[(0, .tree 6 (xs.map cNode)), (1, .tree 6 (xs.map cNode)), (5, .int .i64 0)], []⟩ = some (.exit 0, ⟨[], []⟩) := by
  refine loop_list xs (fun _ (_ : Unit) => True) (fun i _ => ⟨[(0, .tree 6 (xs.map cNode)), (1, .tree 6 (xs.map cNode)), (5, .int .i64 ((i : Nat) : Int))], []⟩) (fun _ _ => some (.exit 0, ⟨[], []⟩)) ?_ ?_ () trivial
  · intro _ _
    rw [loopV_by B0_laws_eqNodeS.eq_1]
    simp only [EG, EL, ↓reduceIte, Nat.reduceEqDiff, Nat.reduceAdd, Nat.reduceSub, Nat.reduceMul, Nat.reduceLeDiff, Nat.reduceLT, Int.reduceLT, Int.reduceLE, Int.reduceEq, Int.reduceToNat, reduceCtorEq, int_lt_irrefl]
  · rintro i h x rest _ rfl rfl _ ih
    have hi : (i : Int) < (xs.length : Int) := by omega
    have hx : wtNode xs[i] ≤ 1073741824 := by have := le_tot wtNode (List.getElem_mem h); omega
    rw [loopV_by B0_laws_eqNodeS.eq_1]
    simp (maxSteps := 10000000) (disch := first | assumption | omega) only [EG, EL, ↓reduceIte, Nat.reduceEqDiff, Nat.reduceAdd, Nat.reduceSub, Nat.reduceMul, Nat.reduceLeDiff, Nat.reduceLT, Int.reduceLT, Int.reduceLE, Int.reduceEq, Int.reduceToNat, reduceCtorEq, FB, FT, hi, wrap_succ, getRow _ _ h, cx_laws_eqNodeS, cl_laws_eqNode, sem_laws_eqNode]
    exact ih () trivial
theorem sem_laws_eqNodeS (xs : List DNode) (h : xs.length + tot wtNode xs ≤ 1073741824) : S_laws_eqNodeS.sem [.tree 6 (xs.map cNode), .tree 6 (xs.map cNode)] = some (.bool true, []) := by
  rw [sg_laws_eqNodeS, sem_go]
  simp (maxSteps := 10000000) (disch := omega) only [F_laws_eqNodeS, params, EG, EL, ↓reduceIte, Nat.reduceEqDiff, Nat.reduceAdd, Nat.reduceSub, Nat.reduceMul, Nat.reduceLeDiff, Nat.reduceLT, Int.reduceLT, Int.reduceLE, Int.reduceEq, Int.reduceToNat, reduceCtorEq, FB, FT, cx_laws_eqNodeS, cl_laws_eqNode, sem_laws_eqNode, loop_laws_eqNodeS xs h]
theorem loop_laws_eqStringS (xs : List ByteArray) (hl : xs.length + tot wtS xs ≤ 1073741824) :
    loopV X_laws_eqStringS 0 [0, 1, 5] [(1, []), (0, [4])] B0_laws_eqStringS ⟨[(0, .tree 1 (xs.map cS)), (1, .tree 1 (xs.map cS)), (5, .int .i64 0)], []⟩ = some (.exit 0, ⟨[], []⟩) := by
  refine loop_list xs (fun _ (_ : Unit) => True) (fun i _ => ⟨[(0, .tree 1 (xs.map cS)), (1, .tree 1 (xs.map cS)), (5, .int .i64 ((i : Nat) : Int))], []⟩) (fun _ _ => some (.exit 0, ⟨[], []⟩)) ?_ ?_ () trivial
  · intro _ _
    rw [loopV_by B0_laws_eqStringS.eq_1]
    simp only [EG, EL, ↓reduceIte, Nat.reduceEqDiff, Nat.reduceAdd, Nat.reduceSub, Nat.reduceMul, Nat.reduceLeDiff, Nat.reduceLT, Int.reduceLT, Int.reduceLE, Int.reduceEq, Int.reduceToNat, reduceCtorEq, int_lt_irrefl]
  · rintro i h x rest _ rfl rfl _ ih
    have hi : (i : Int) < (xs.length : Int) := by omega
    skip
    rw [loopV_by B0_laws_eqStringS.eq_1]
    simp (maxSteps := 10000000) (disch := first | assumption | omega) only [EG, EL, ↓reduceIte, Nat.reduceEqDiff, Nat.reduceAdd, Nat.reduceSub, Nat.reduceMul, Nat.reduceLeDiff, Nat.reduceLT, Int.reduceLT, Int.reduceLE, Int.reduceEq, Int.reduceToNat, reduceCtorEq, FB, FT, hi, wrap_succ, getRow _ _ h, cx_laws_eqStringS]
    exact ih () trivial
theorem sem_laws_eqStringS (xs : List ByteArray) (h : xs.length + tot wtS xs ≤ 1073741824) : S_laws_eqStringS.sem [.tree 1 (xs.map cS), .tree 1 (xs.map cS)] = some (.bool true, []) := by
  rw [sg_laws_eqStringS, sem_go]
  simp (maxSteps := 10000000) (disch := omega) only [F_laws_eqStringS, params, EG, EL, ↓reduceIte, Nat.reduceEqDiff, Nat.reduceAdd, Nat.reduceSub, Nat.reduceMul, Nat.reduceLeDiff, Nat.reduceLT, Int.reduceLT, Int.reduceLE, Int.reduceEq, Int.reduceToNat, reduceCtorEq, FB, FT, cx_laws_eqStringS, loop_laws_eqStringS xs h]
theorem sem_laws_eqEntry (x : DEntry) (h : wtEntry x ≤ 1073741824) : S_laws_eqEntry.sem [.agg (cEntry x), .agg (cEntry x)] = some (.bool true, []) := by
  unfold wtEntry at h
  rw [sg_laws_eqEntry, sem_go]
  simp (maxSteps := 10000000) (disch := omega) only [F_laws_eqEntry, params, EG, EL, ↓reduceIte, Nat.reduceEqDiff, Nat.reduceAdd, Nat.reduceSub, Nat.reduceMul, Nat.reduceLeDiff, Nat.reduceLT, Int.reduceLT, Int.reduceLE, Int.reduceEq, Int.reduceToNat, reduceCtorEq, FB, FT, cx_laws_eqEntry]
theorem loop_laws_eqEntryS (xs : List DEntry) (hl : xs.length + tot wtEntry xs ≤ 1073741824) :
    loopV X_laws_eqEntryS 0 [0, 1, 5] [(1, []), (0, [4])] B0_laws_eqEntryS ⟨[(0, .tree 3 (xs.map cEntry)), (1, .tree 3 (xs.map cEntry)), (5, .int .i64 0)], []⟩ = some (.exit 0, ⟨[], []⟩) := by
  refine loop_list xs (fun _ (_ : Unit) => True) (fun i _ => ⟨[(0, .tree 3 (xs.map cEntry)), (1, .tree 3 (xs.map cEntry)), (5, .int .i64 ((i : Nat) : Int))], []⟩) (fun _ _ => some (.exit 0, ⟨[], []⟩)) ?_ ?_ () trivial
  · intro _ _
    rw [loopV_by B0_laws_eqEntryS.eq_1]
    simp only [EG, EL, ↓reduceIte, Nat.reduceEqDiff, Nat.reduceAdd, Nat.reduceSub, Nat.reduceMul, Nat.reduceLeDiff, Nat.reduceLT, Int.reduceLT, Int.reduceLE, Int.reduceEq, Int.reduceToNat, reduceCtorEq, int_lt_irrefl]
  · rintro i h x rest _ rfl rfl _ ih
    have hi : (i : Int) < (xs.length : Int) := by omega
    have hx : wtEntry xs[i] ≤ 1073741824 := by have := le_tot wtEntry (List.getElem_mem h); omega
    rw [loopV_by B0_laws_eqEntryS.eq_1]
    simp (maxSteps := 10000000) (disch := first | assumption | omega) only [EG, EL, ↓reduceIte, Nat.reduceEqDiff, Nat.reduceAdd, Nat.reduceSub, Nat.reduceMul, Nat.reduceLeDiff, Nat.reduceLT, Int.reduceLT, Int.reduceLE, Int.reduceEq, Int.reduceToNat, reduceCtorEq, FB, FT, hi, wrap_succ, getRow _ _ h, cx_laws_eqEntryS, cl_laws_eqEntry, sem_laws_eqEntry]
    exact ih () trivial
theorem sem_laws_eqEntryS (xs : List DEntry) (h : xs.length + tot wtEntry xs ≤ 1073741824) : S_laws_eqEntryS.sem [.tree 3 (xs.map cEntry), .tree 3 (xs.map cEntry)] = some (.bool true, []) := by
  rw [sg_laws_eqEntryS, sem_go]
  simp (maxSteps := 10000000) (disch := omega) only [F_laws_eqEntryS, params, EG, EL, ↓reduceIte, Nat.reduceEqDiff, Nat.reduceAdd, Nat.reduceSub, Nat.reduceMul, Nat.reduceLeDiff, Nat.reduceLT, Int.reduceLT, Int.reduceLE, Int.reduceEq, Int.reduceToNat, reduceCtorEq, FB, FT, cx_laws_eqEntryS, cl_laws_eqEntry, sem_laws_eqEntry, loop_laws_eqEntryS xs h]
theorem sem_laws_eqMonitor (x : DMonitor) (h : wtMonitor x ≤ 1073741824) : S_laws_eqMonitor.sem [.agg (cMonitor x), .agg (cMonitor x)] = some (.bool true, []) := by
  unfold wtMonitor at h
  rw [sg_laws_eqMonitor, sem_go]
  simp (maxSteps := 10000000) (disch := omega) only [F_laws_eqMonitor, params, EG, EL, ↓reduceIte, Nat.reduceEqDiff, Nat.reduceAdd, Nat.reduceSub, Nat.reduceMul, Nat.reduceLeDiff, Nat.reduceLT, Int.reduceLT, Int.reduceLE, Int.reduceEq, Int.reduceToNat, reduceCtorEq, FB, FT, cx_laws_eqMonitor, cl_laws_eqStringS, sem_laws_eqStringS, cl_laws_eqEntryS, sem_laws_eqEntryS]
theorem loop_laws_eqMonitorS (xs : List DMonitor) (hl : xs.length + tot wtMonitor xs ≤ 1073741824) :
    loopV X_laws_eqMonitorS 0 [0, 1, 5] [(1, []), (0, [4])] B0_laws_eqMonitorS ⟨[(0, .tree 4 (xs.map cMonitor)), (1, .tree 4 (xs.map cMonitor)), (5, .int .i64 0)], []⟩ = some (.exit 0, ⟨[], []⟩) := by
  refine loop_list xs (fun _ (_ : Unit) => True) (fun i _ => ⟨[(0, .tree 4 (xs.map cMonitor)), (1, .tree 4 (xs.map cMonitor)), (5, .int .i64 ((i : Nat) : Int))], []⟩) (fun _ _ => some (.exit 0, ⟨[], []⟩)) ?_ ?_ () trivial
  · intro _ _
    rw [loopV_by B0_laws_eqMonitorS.eq_1]
    simp only [EG, EL, ↓reduceIte, Nat.reduceEqDiff, Nat.reduceAdd, Nat.reduceSub, Nat.reduceMul, Nat.reduceLeDiff, Nat.reduceLT, Int.reduceLT, Int.reduceLE, Int.reduceEq, Int.reduceToNat, reduceCtorEq, int_lt_irrefl]
  · rintro i h x rest _ rfl rfl _ ih
    have hi : (i : Int) < (xs.length : Int) := by omega
    have hx : wtMonitor xs[i] ≤ 1073741824 := by have := le_tot wtMonitor (List.getElem_mem h); omega
    rw [loopV_by B0_laws_eqMonitorS.eq_1]
    simp (maxSteps := 10000000) (disch := first | assumption | omega) only [EG, EL, ↓reduceIte, Nat.reduceEqDiff, Nat.reduceAdd, Nat.reduceSub, Nat.reduceMul, Nat.reduceLeDiff, Nat.reduceLT, Int.reduceLT, Int.reduceLE, Int.reduceEq, Int.reduceToNat, reduceCtorEq, FB, FT, hi, wrap_succ, getRow _ _ h, cx_laws_eqMonitorS, cl_laws_eqMonitor, sem_laws_eqMonitor]
    exact ih () trivial
theorem sem_laws_eqMonitorS (xs : List DMonitor) (h : xs.length + tot wtMonitor xs ≤ 1073741824) : S_laws_eqMonitorS.sem [.tree 4 (xs.map cMonitor), .tree 4 (xs.map cMonitor)] = some (.bool true, []) := by
  rw [sg_laws_eqMonitorS, sem_go]
  simp (maxSteps := 10000000) (disch := omega) only [F_laws_eqMonitorS, params, EG, EL, ↓reduceIte, Nat.reduceEqDiff, Nat.reduceAdd, Nat.reduceSub, Nat.reduceMul, Nat.reduceLeDiff, Nat.reduceLT, Int.reduceLT, Int.reduceLE, Int.reduceEq, Int.reduceToNat, reduceCtorEq, FB, FT, cx_laws_eqMonitorS, cl_laws_eqMonitor, sem_laws_eqMonitor, loop_laws_eqMonitorS xs h]
theorem sem_laws_eqProcess (x : DProcess) (h : wtProcess x ≤ 1073741824) : S_laws_eqProcess.sem [.agg (cProcess x), .agg (cProcess x)] = some (.bool true, []) := by
  unfold wtProcess at h
  rw [sg_laws_eqProcess, sem_go]
  simp (maxSteps := 10000000) (disch := omega) only [F_laws_eqProcess, params, EG, EL, ↓reduceIte, Nat.reduceEqDiff, Nat.reduceAdd, Nat.reduceSub, Nat.reduceMul, Nat.reduceLeDiff, Nat.reduceLT, Int.reduceLT, Int.reduceLE, Int.reduceEq, Int.reduceToNat, reduceCtorEq, FB, FT, cx_laws_eqProcess, cl_laws_eqStringS, sem_laws_eqStringS]
theorem loop_laws_eqProcessS (xs : List DProcess) (hl : xs.length + tot wtProcess xs ≤ 1073741824) :
    loopV X_laws_eqProcessS 0 [0, 1, 5] [(1, []), (0, [4])] B0_laws_eqProcessS ⟨[(0, .tree 4 (xs.map cProcess)), (1, .tree 4 (xs.map cProcess)), (5, .int .i64 0)], []⟩ = some (.exit 0, ⟨[], []⟩) := by
  refine loop_list xs (fun _ (_ : Unit) => True) (fun i _ => ⟨[(0, .tree 4 (xs.map cProcess)), (1, .tree 4 (xs.map cProcess)), (5, .int .i64 ((i : Nat) : Int))], []⟩) (fun _ _ => some (.exit 0, ⟨[], []⟩)) ?_ ?_ () trivial
  · intro _ _
    rw [loopV_by B0_laws_eqProcessS.eq_1]
    simp only [EG, EL, ↓reduceIte, Nat.reduceEqDiff, Nat.reduceAdd, Nat.reduceSub, Nat.reduceMul, Nat.reduceLeDiff, Nat.reduceLT, Int.reduceLT, Int.reduceLE, Int.reduceEq, Int.reduceToNat, reduceCtorEq, int_lt_irrefl]
  · rintro i h x rest _ rfl rfl _ ih
    have hi : (i : Int) < (xs.length : Int) := by omega
    have hx : wtProcess xs[i] ≤ 1073741824 := by have := le_tot wtProcess (List.getElem_mem h); omega
    rw [loopV_by B0_laws_eqProcessS.eq_1]
    simp (maxSteps := 10000000) (disch := first | assumption | omega) only [EG, EL, ↓reduceIte, Nat.reduceEqDiff, Nat.reduceAdd, Nat.reduceSub, Nat.reduceMul, Nat.reduceLeDiff, Nat.reduceLT, Int.reduceLT, Int.reduceLE, Int.reduceEq, Int.reduceToNat, reduceCtorEq, FB, FT, hi, wrap_succ, getRow _ _ h, cx_laws_eqProcessS, cl_laws_eqProcess, sem_laws_eqProcess]
    exact ih () trivial
theorem sem_laws_eqProcessS (xs : List DProcess) (h : xs.length + tot wtProcess xs ≤ 1073741824) : S_laws_eqProcessS.sem [.tree 4 (xs.map cProcess), .tree 4 (xs.map cProcess)] = some (.bool true, []) := by
  rw [sg_laws_eqProcessS, sem_go]
  simp (maxSteps := 10000000) (disch := omega) only [F_laws_eqProcessS, params, EG, EL, ↓reduceIte, Nat.reduceEqDiff, Nat.reduceAdd, Nat.reduceSub, Nat.reduceMul, Nat.reduceLeDiff, Nat.reduceLT, Int.reduceLT, Int.reduceLE, Int.reduceEq, Int.reduceToNat, reduceCtorEq, FB, FT, cx_laws_eqProcessS, cl_laws_eqProcess, sem_laws_eqProcess, loop_laws_eqProcessS xs h]
theorem sem_laws_eqProgram (x : DProgram) (h : wtProgram x ≤ 1073741824) : S_laws_eqProgram.sem [.agg (cProgram x), .agg (cProgram x)] = some (.bool true, []) := by
  unfold wtProgram at h
  rw [sg_laws_eqProgram, sem_go]
  simp (maxSteps := 10000000) (disch := omega) only [F_laws_eqProgram, params, EG, EL, ↓reduceIte, Nat.reduceEqDiff, Nat.reduceAdd, Nat.reduceSub, Nat.reduceMul, Nat.reduceLeDiff, Nat.reduceLT, Int.reduceLT, Int.reduceLE, Int.reduceEq, Int.reduceToNat, reduceCtorEq, FB, FT, cx_laws_eqProgram, cl_laws_eqNodeS, sem_laws_eqNodeS, cl_laws_eqMonitorS, sem_laws_eqMonitorS, cl_laws_eqProcessS, sem_laws_eqProcessS]
theorem sem_laws_eqImage (x : DImage) (h : wtImage x ≤ 1073741824) : S_laws_eqImage.sem [.agg (cImage x), .agg (cImage x)] = some (.bool true, []) := by
  unfold wtImage at h
  rw [sg_laws_eqImage, sem_go]
  simp (maxSteps := 10000000) (disch := omega) only [F_laws_eqImage, params, EG, EL, ↓reduceIte, Nat.reduceEqDiff, Nat.reduceAdd, Nat.reduceSub, Nat.reduceMul, Nat.reduceLeDiff, Nat.reduceLT, Int.reduceLT, Int.reduceLE, Int.reduceEq, Int.reduceToNat, reduceCtorEq, FB, FT, cx_laws_eqImage, cl_laws_eqIntS, sem_laws_eqIntS]
theorem sem_laws_markText (k : Int) (h1 : 1 ≤ k) (h2 : k ≤ 4611686018427387000) : S_laws_markText.sem [.int .i64 k] = some (.str (mT k), []) := by
  have loop : ∀ (m : Nat) (s : ByteArray), s.size + m ≤ 4611686018427387000 → loopV X_laws_markText 0 [0, 3] [(1, [3])] B0_laws_markText ⟨[(0, .int .i64 (m : Int)), (3, .str s)], []⟩ = some (.exit 0, ⟨[(3, .str (dig m s))], []⟩) := by
    intro m
    induction m using Nat.strongRecOn with
    | _ m ih =>
      intro s hs
      rw [loopV_by B0_laws_markText.eq_1]
      by_cases hm : m = 0
      · subst hm
        simp only [EG, EL, ↓reduceIte, Nat.reduceEqDiff, Nat.reduceAdd, Nat.reduceSub, Nat.reduceMul, Nat.reduceLeDiff, Nat.reduceLT, Int.reduceLT, Int.reduceLE, Int.reduceEq, Int.reduceToNat, reduceCtorEq, FB, FT, int_lt_irrefl, Int.natCast_zero, dig_zero]
      · have hp : (0 : Int) < (m : Int) := by omega
        have hq : Int.tdiv (m : Int) 10 = ((m / 10 : Nat) : Int) := by
          rw [Int.tdiv_eq_ediv_of_nonneg (by omega)]; omega
        have hz := ih (m / 10) (by omega) (⟨#[UInt8.ofNat (IntKind.wrap .u8 (IntKind.wrap .i64 (48 + Int.tmod m 10))).toNat]⟩ ++ s) (by rw [ByteArray.size_append, show (⟨#[UInt8.ofNat (IntKind.wrap .u8 (IntKind.wrap .i64 (48 + Int.tmod m 10))).toNat]⟩ : ByteArray).size = 1 from rfl]; omega)
        have hsz : ∀ b : UInt8, (⟨#[b]⟩ : ByteArray).size + s.size ≤ 4611686018427387904 := fun b => by rw [show (⟨#[b]⟩ : ByteArray).size = 1 from rfl]; omega
        have hsz' : ∀ b : UInt8, (⟨[b].toArray⟩ : ByteArray).size + s.size ≤ 4611686018427387904 := hsz
        have hw : IntKind.wrap .i64 ((m / 10 : Nat) : Int) = ((m / 10 : Nat) : Int) := wrapI (by omega) (by omega)
        simp (maxSteps := 10000000) (disch := first | assumption | omega) only [EG, EL, ↓reduceIte, Nat.reduceEqDiff, Nat.reduceAdd, Nat.reduceSub, Nat.reduceMul, Nat.reduceLeDiff, Nat.reduceLT, Int.reduceLT, Int.reduceLE, Int.reduceEq, Int.reduceToNat, reduceCtorEq, FB, FT, hp, hq, hw, hsz', hsz, cx_laws_markText]
        rw [dig_pos hm]
        exact hz
  obtain ⟨m, rfl⟩ : ∃ m : Nat, k = (m : Int) := ⟨k.toNat, by omega⟩
  have hp : ¬ (m : Int) ≤ 0 := by omega
  have hz := dig_size m ⟨#[]⟩
  have hsz : (⟨#[109]⟩ : ByteArray).size + (dig m ⟨#[]⟩).size ≤ 4611686018427387904 := by
    rw [show (⟨#[109]⟩ : ByteArray).size = 1 from rfl]
    rw [show (⟨#[]⟩ : ByteArray).size = 0 from rfl] at hz
    omega
  rw [sg_laws_markText, sem_go]
  simp (maxSteps := 10000000) (disch := first | assumption | omega) only [F_laws_markText, params, EG, EL, ↓reduceIte, Nat.reduceEqDiff, Nat.reduceAdd, Nat.reduceSub, Nat.reduceMul, Nat.reduceLeDiff, Nat.reduceLT, Int.reduceLT, Int.reduceLE, Int.reduceEq, Int.reduceToNat, reduceCtorEq, FB, FT, cx_laws_markText, hp, loop m ⟨#[]⟩ (by rw [show (⟨#[]⟩ : ByteArray).size = 0 from rfl]; omega), hsz, mT]
theorem sem_laws_markIntS (xs : List Int) (k : Int) (h1 : 1 ≤ k) (h2 : k + (tot ct1 xs : Nat) ≤ 4611686018427387000) : S_laws_markIntS.sem [.tree 1 (xs.map cI), .int .i64 k] = some (.int .i64 (k + (tot ct1 xs : Nat)), (mkL mkI ct1 xs k).map cI) := by
  have hlen : xs.length ≤ tot ct1 xs := len_ct1
  have loop : loopV X_laws_markIntS 1 [0, 1, 5] [(1, [1])] B0_laws_markIntS ⟨[(0, .sl ⟨0, none, 0⟩ 1 0 xs.length), (1, .int .i64 k), (5, .int .i64 0)], [some ⟨false, 0, 1, xs.map cI⟩]⟩ = some (.exit 0, ⟨[(1, .int .i64 (k + (tot ct1 xs : Nat)))], [some ⟨false, 0, 1, (mkL mkI ct1 xs k).map cI⟩]⟩) := by
    refine loop_list xs (fun i (a : List Int × Int) => a.1.length = i ∧ 1 ≤ a.2 ∧ a.2 + (tot ct1 (xs.drop i) : Nat) ≤ 4611686018427387000) (fun i a => ⟨[(0, .sl ⟨0, none, 0⟩ 1 0 xs.length), (1, .int .i64 a.2), (5, .int .i64 ((i : Nat) : Int))], [some ⟨false, 0, 1, (a.1 ++ xs.drop i).map cI⟩]⟩) (fun rest a => some (.exit 0, ⟨[(1, .int .i64 (a.2 + (tot ct1 rest : Nat)))], [some ⟨false, 0, 1, (a.1 ++ mkL mkI ct1 rest a.2).map cI⟩]⟩)) ?_ ?_ ([], k) ⟨rfl, h1, h2⟩
    · rintro a ⟨hy, a1, a2⟩
      rw [loopV_by B0_laws_markIntS.eq_1]
      simp only [EG, EL, ↓reduceIte, Nat.reduceEqDiff, Nat.reduceAdd, Nat.reduceSub, Nat.reduceMul, Nat.reduceLeDiff, Nat.reduceLT, Int.reduceLT, Int.reduceLE, Int.reduceEq, Int.reduceToNat, reduceCtorEq, int_lt_irrefl, List.drop_length, tot, mkL, Int.natCast_zero, Int.add_zero]
    · rintro i h x rest a rfl rfl ⟨hy, a1, a2⟩ ih
      have hi : (i : Int) < (xs.length : Int) := by omega
      have hd : xs.drop i = xs[i] :: xs.drop (i + 1) := List.drop_eq_getElem_cons h
      have ht : tot ct1 (xs.drop i) = ct1 xs[i] + tot ct1 (xs.drop (i + 1)) := by rw [hd]; rfl
      have hc : ct1 xs[i] = 1 := rfl
      have hlm : i < ((a.1 ++ xs.drop i).map cI).length := by rw [mid_len hy h]; exact h
      have hll : i < a.1.length + (xs.drop i).length := by rw [List.length_drop]; omega
      have hg := mid_get (c := cI) hy h
      have hf := mid_set (c := cI) hy h (x := a.2) rfl
      have hk : (a.2 + 1) = a.2 + ((ct1 xs[i] : Nat) : Int) := by rw [hc]; omega
      simp only [cI] at hf
      rw [loopV_by B0_laws_markIntS.eq_1]
      simp (maxSteps := 10000000) (disch := first | assumption | omega) only [EG, EL, ↓reduceIte, Nat.reduceEqDiff, Nat.reduceAdd, Nat.reduceSub, Nat.reduceMul, Nat.reduceLeDiff, Nat.reduceLT, Int.reduceLT, Int.reduceLE, Int.reduceEq, Int.reduceToNat, reduceCtorEq, FB, FT, hi, h, hg, hlm, hll, cx_laws_markIntS, wrapI, splice_eq, set_getD, set_set, hf]
      rw [show ((i : Nat) : Int) + 1 = ((i + 1 : Nat) : Int) by omega]
      have hih := ih (a.1 ++ [a.2], (a.2 + 1)) ⟨by simp [hy], by show 1 ≤ (a.2 + 1); omega, by show (a.2 + 1) + _ ≤ _; omega⟩
      simp only [eq_self] at hih
      rw [hih]
      simp only [hk, tot, mkL, List.append_assoc, List.singleton_append]
      rw [show a.2 + ((ct1 xs[i] : Nat) : Int) + ((tot ct1 (xs.drop (i + 1)) : Nat) : Int) = a.2 + ((ct1 xs[i] + tot ct1 (xs.drop (i + 1)) : Nat) : Int) by omega]
      try rfl
  rw [sg_laws_markIntS, sem_goM]
  simp (maxSteps := 10000000) (disch := first | assumption | omega) only [F_laws_markIntS, params, EG, EL, ↓reduceIte, Nat.reduceEqDiff, Nat.reduceAdd, Nat.reduceSub, Nat.reduceMul, Nat.reduceLeDiff, Nat.reduceLT, Int.reduceLT, Int.reduceLE, Int.reduceEq, Int.reduceToNat, reduceCtorEq, FB, FT, cx_laws_markIntS, loop]
theorem sem_laws_markNodeS (xs : List DNode) (k : Int) (h1 : 1 ≤ k) (h2 : k + (tot ctNode xs : Nat) ≤ 4611686018427387000) : S_laws_markNodeS.sem [.tree 6 (xs.map cNode), .int .i64 k] = some (.int .i64 (k + (tot ctNode xs : Nat)), (mkL mkNode ctNode xs k).map cNode) := by
  have hlen : xs.length ≤ tot ctNode xs := len_tot fun x => by unfold ctNode; omega
  have loop : loopV X_laws_markNodeS 1 [0, 1, 5] [(1, [1])] B0_laws_markNodeS ⟨[(0, .sl ⟨0, none, 0⟩ 6 0 xs.length), (1, .int .i64 k), (5, .int .i64 0)], [some ⟨false, 0, 6, xs.map cNode⟩]⟩ = some (.exit 0, ⟨[(1, .int .i64 (k + (tot ctNode xs : Nat)))], [some ⟨false, 0, 6, (mkL mkNode ctNode xs k).map cNode⟩]⟩) := by
    refine loop_list xs (fun i (a : List DNode × Int) => a.1.length = i ∧ 1 ≤ a.2 ∧ a.2 + (tot ctNode (xs.drop i) : Nat) ≤ 4611686018427387000) (fun i a => ⟨[(0, .sl ⟨0, none, 0⟩ 6 0 xs.length), (1, .int .i64 a.2), (5, .int .i64 ((i : Nat) : Int))], [some ⟨false, 0, 6, (a.1 ++ xs.drop i).map cNode⟩]⟩) (fun rest a => some (.exit 0, ⟨[(1, .int .i64 (a.2 + (tot ctNode rest : Nat)))], [some ⟨false, 0, 6, (a.1 ++ mkL mkNode ctNode rest a.2).map cNode⟩]⟩)) ?_ ?_ ([], k) ⟨rfl, h1, h2⟩
    · rintro a ⟨hy, a1, a2⟩
      rw [loopV_by B0_laws_markNodeS.eq_1]
      simp only [EG, EL, ↓reduceIte, Nat.reduceEqDiff, Nat.reduceAdd, Nat.reduceSub, Nat.reduceMul, Nat.reduceLeDiff, Nat.reduceLT, Int.reduceLT, Int.reduceLE, Int.reduceEq, Int.reduceToNat, reduceCtorEq, int_lt_irrefl, List.drop_length, tot, mkL, Int.natCast_zero, Int.add_zero]
    · rintro i h x rest a rfl rfl ⟨hy, a1, a2⟩ ih
      have hi : (i : Int) < (xs.length : Int) := by omega
      have hd : xs.drop i = xs[i] :: xs.drop (i + 1) := List.drop_eq_getElem_cons h
      have ht : tot ctNode (xs.drop i) = ctNode xs[i] + tot ctNode (xs.drop (i + 1)) := by rw [hd]; rfl
      have hc : ctNode xs[i] = 1 + 1 + 1 + 1 + 1 + tot ct1 xs[i].Kids := rfl
      have hlm : i < ((a.1 ++ xs.drop i).map cNode).length := by rw [mid_len hy h]; exact h
      have hll : i < a.1.length + (xs.drop i).length := by rw [List.length_drop]; omega
      have hg := mid_get (c := cNode) hy h
      have hf := mid_set (c := cNode) hy h (x := (mkNode xs[i] a.2)) rfl
      have hk : ((((((a.2 + 1) + 1) + 1) + 1) + 1) + (tot ct1 xs[i].Kids : Nat)) = a.2 + ((ctNode xs[i] : Nat) : Int) := by rw [hc]; omega
      simp only [cNode, mkNode] at hf
      rw [loopV_by B0_laws_markNodeS.eq_1]
      simp (maxSteps := 10000000) (disch := first | assumption | omega) only [EG, EL, ↓reduceIte, Nat.reduceEqDiff, Nat.reduceAdd, Nat.reduceSub, Nat.reduceMul, Nat.reduceLeDiff, Nat.reduceLT, Int.reduceLT, Int.reduceLE, Int.reduceEq, Int.reduceToNat, reduceCtorEq, FB, FT, hi, h, hg, hlm, hll, cx_laws_markNodeS, cl_laws_markText, sem_laws_markText, cl_laws_markIntS, sem_laws_markIntS, wrapI, splice_eq, set_getD, set_set, hf]
      rw [show ((i : Nat) : Int) + 1 = ((i + 1 : Nat) : Int) by omega]
      have hih := ih (a.1 ++ [(mkNode xs[i] a.2)], ((((((a.2 + 1) + 1) + 1) + 1) + 1) + (tot ct1 xs[i].Kids : Nat))) ⟨by simp [hy], by show 1 ≤ ((((((a.2 + 1) + 1) + 1) + 1) + 1) + (tot ct1 xs[i].Kids : Nat)); omega, by show ((((((a.2 + 1) + 1) + 1) + 1) + 1) + (tot ct1 xs[i].Kids : Nat)) + _ ≤ _; omega⟩
      simp only [mkNode] at hih
      rw [hih]
      simp only [hk, tot, mkL, List.append_assoc, List.singleton_append]
      rw [show a.2 + ((ctNode xs[i] : Nat) : Int) + ((tot ctNode (xs.drop (i + 1)) : Nat) : Int) = a.2 + ((ctNode xs[i] + tot ctNode (xs.drop (i + 1)) : Nat) : Int) by omega]
      try rfl
  rw [sg_laws_markNodeS, sem_goM]
  simp (maxSteps := 10000000) (disch := first | assumption | omega) only [F_laws_markNodeS, params, EG, EL, ↓reduceIte, Nat.reduceEqDiff, Nat.reduceAdd, Nat.reduceSub, Nat.reduceMul, Nat.reduceLeDiff, Nat.reduceLT, Int.reduceLT, Int.reduceLE, Int.reduceEq, Int.reduceToNat, reduceCtorEq, FB, FT, cx_laws_markNodeS, cl_laws_markText, sem_laws_markText, cl_laws_markIntS, sem_laws_markIntS, loop]
theorem sem_laws_markStringS (xs : List ByteArray) (k : Int) (h1 : 1 ≤ k) (h2 : k + (tot ct1 xs : Nat) ≤ 4611686018427387000) : S_laws_markStringS.sem [.tree 1 (xs.map cS), .int .i64 k] = some (.int .i64 (k + (tot ct1 xs : Nat)), (mkL mkS ct1 xs k).map cS) := by
  have hlen : xs.length ≤ tot ct1 xs := len_ct1
  have loop : loopV X_laws_markStringS 1 [0, 1, 5] [(1, [1])] B0_laws_markStringS ⟨[(0, .sl ⟨0, none, 0⟩ 1 0 xs.length), (1, .int .i64 k), (5, .int .i64 0)], [some ⟨false, 0, 1, xs.map cS⟩]⟩ = some (.exit 0, ⟨[(1, .int .i64 (k + (tot ct1 xs : Nat)))], [some ⟨false, 0, 1, (mkL mkS ct1 xs k).map cS⟩]⟩) := by
    refine loop_list xs (fun i (a : List ByteArray × Int) => a.1.length = i ∧ 1 ≤ a.2 ∧ a.2 + (tot ct1 (xs.drop i) : Nat) ≤ 4611686018427387000) (fun i a => ⟨[(0, .sl ⟨0, none, 0⟩ 1 0 xs.length), (1, .int .i64 a.2), (5, .int .i64 ((i : Nat) : Int))], [some ⟨false, 0, 1, (a.1 ++ xs.drop i).map cS⟩]⟩) (fun rest a => some (.exit 0, ⟨[(1, .int .i64 (a.2 + (tot ct1 rest : Nat)))], [some ⟨false, 0, 1, (a.1 ++ mkL mkS ct1 rest a.2).map cS⟩]⟩)) ?_ ?_ ([], k) ⟨rfl, h1, h2⟩
    · rintro a ⟨hy, a1, a2⟩
      rw [loopV_by B0_laws_markStringS.eq_1]
      simp only [EG, EL, ↓reduceIte, Nat.reduceEqDiff, Nat.reduceAdd, Nat.reduceSub, Nat.reduceMul, Nat.reduceLeDiff, Nat.reduceLT, Int.reduceLT, Int.reduceLE, Int.reduceEq, Int.reduceToNat, reduceCtorEq, int_lt_irrefl, List.drop_length, tot, mkL, Int.natCast_zero, Int.add_zero]
    · rintro i h x rest a rfl rfl ⟨hy, a1, a2⟩ ih
      have hi : (i : Int) < (xs.length : Int) := by omega
      have hd : xs.drop i = xs[i] :: xs.drop (i + 1) := List.drop_eq_getElem_cons h
      have ht : tot ct1 (xs.drop i) = ct1 xs[i] + tot ct1 (xs.drop (i + 1)) := by rw [hd]; rfl
      have hc : ct1 xs[i] = 1 := rfl
      have hlm : i < ((a.1 ++ xs.drop i).map cS).length := by rw [mid_len hy h]; exact h
      have hll : i < a.1.length + (xs.drop i).length := by rw [List.length_drop]; omega
      have hg := mid_get (c := cS) hy h
      have hf := mid_set (c := cS) hy h (x := (mT a.2)) rfl
      have hk : (a.2 + 1) = a.2 + ((ct1 xs[i] : Nat) : Int) := by rw [hc]; omega
      simp only [cS] at hf
      rw [loopV_by B0_laws_markStringS.eq_1]
      simp (maxSteps := 10000000) (disch := first | assumption | omega) only [EG, EL, ↓reduceIte, Nat.reduceEqDiff, Nat.reduceAdd, Nat.reduceSub, Nat.reduceMul, Nat.reduceLeDiff, Nat.reduceLT, Int.reduceLT, Int.reduceLE, Int.reduceEq, Int.reduceToNat, reduceCtorEq, FB, FT, hi, h, hg, hlm, hll, cx_laws_markStringS, cl_laws_markText, sem_laws_markText, wrapI, splice_eq, set_getD, set_set, hf]
      rw [show ((i : Nat) : Int) + 1 = ((i + 1 : Nat) : Int) by omega]
      have hih := ih (a.1 ++ [(mT a.2)], (a.2 + 1)) ⟨by simp [hy], by show 1 ≤ (a.2 + 1); omega, by show (a.2 + 1) + _ ≤ _; omega⟩
      simp only [eq_self] at hih
      rw [hih]
      simp only [hk, tot, mkL, List.append_assoc, List.singleton_append]
      rw [show a.2 + ((ct1 xs[i] : Nat) : Int) + ((tot ct1 (xs.drop (i + 1)) : Nat) : Int) = a.2 + ((ct1 xs[i] + tot ct1 (xs.drop (i + 1)) : Nat) : Int) by omega]
      try rfl
  rw [sg_laws_markStringS, sem_goM]
  simp (maxSteps := 10000000) (disch := first | assumption | omega) only [F_laws_markStringS, params, EG, EL, ↓reduceIte, Nat.reduceEqDiff, Nat.reduceAdd, Nat.reduceSub, Nat.reduceMul, Nat.reduceLeDiff, Nat.reduceLT, Int.reduceLT, Int.reduceLE, Int.reduceEq, Int.reduceToNat, reduceCtorEq, FB, FT, cx_laws_markStringS, cl_laws_markText, sem_laws_markText, loop]
theorem sem_laws_markEntryS (xs : List DEntry) (k : Int) (h1 : 1 ≤ k) (h2 : k + (tot ctEntry xs : Nat) ≤ 4611686018427387000) : S_laws_markEntryS.sem [.tree 3 (xs.map cEntry), .int .i64 k] = some (.int .i64 (k + (tot ctEntry xs : Nat)), (mkL mkEntry ctEntry xs k).map cEntry) := by
  have hlen : xs.length ≤ tot ctEntry xs := len_tot fun x => by unfold ctEntry; omega
  have loop : loopV X_laws_markEntryS 1 [0, 1, 5] [(1, [1])] B0_laws_markEntryS ⟨[(0, .sl ⟨0, none, 0⟩ 3 0 xs.length), (1, .int .i64 k), (5, .int .i64 0)], [some ⟨false, 0, 3, xs.map cEntry⟩]⟩ = some (.exit 0, ⟨[(1, .int .i64 (k + (tot ctEntry xs : Nat)))], [some ⟨false, 0, 3, (mkL mkEntry ctEntry xs k).map cEntry⟩]⟩) := by
    refine loop_list xs (fun i (a : List DEntry × Int) => a.1.length = i ∧ 1 ≤ a.2 ∧ a.2 + (tot ctEntry (xs.drop i) : Nat) ≤ 4611686018427387000) (fun i a => ⟨[(0, .sl ⟨0, none, 0⟩ 3 0 xs.length), (1, .int .i64 a.2), (5, .int .i64 ((i : Nat) : Int))], [some ⟨false, 0, 3, (a.1 ++ xs.drop i).map cEntry⟩]⟩) (fun rest a => some (.exit 0, ⟨[(1, .int .i64 (a.2 + (tot ctEntry rest : Nat)))], [some ⟨false, 0, 3, (a.1 ++ mkL mkEntry ctEntry rest a.2).map cEntry⟩]⟩)) ?_ ?_ ([], k) ⟨rfl, h1, h2⟩
    · rintro a ⟨hy, a1, a2⟩
      rw [loopV_by B0_laws_markEntryS.eq_1]
      simp only [EG, EL, ↓reduceIte, Nat.reduceEqDiff, Nat.reduceAdd, Nat.reduceSub, Nat.reduceMul, Nat.reduceLeDiff, Nat.reduceLT, Int.reduceLT, Int.reduceLE, Int.reduceEq, Int.reduceToNat, reduceCtorEq, int_lt_irrefl, List.drop_length, tot, mkL, Int.natCast_zero, Int.add_zero]
    · rintro i h x rest a rfl rfl ⟨hy, a1, a2⟩ ih
      have hi : (i : Int) < (xs.length : Int) := by omega
      have hd : xs.drop i = xs[i] :: xs.drop (i + 1) := List.drop_eq_getElem_cons h
      have ht : tot ctEntry (xs.drop i) = ctEntry xs[i] + tot ctEntry (xs.drop (i + 1)) := by rw [hd]; rfl
      have hc : ctEntry xs[i] = 1 + 1 + 1 := rfl
      have hlm : i < ((a.1 ++ xs.drop i).map cEntry).length := by rw [mid_len hy h]; exact h
      have hll : i < a.1.length + (xs.drop i).length := by rw [List.length_drop]; omega
      have hg := mid_get (c := cEntry) hy h
      have hf := mid_set (c := cEntry) hy h (x := (mkEntry xs[i] a.2)) rfl
      have hk : (((a.2 + 1) + 1) + 1) = a.2 + ((ctEntry xs[i] : Nat) : Int) := by rw [hc]; omega
      simp only [cEntry, mkEntry] at hf
      rw [loopV_by B0_laws_markEntryS.eq_1]
      simp (maxSteps := 10000000) (disch := first | assumption | omega) only [EG, EL, ↓reduceIte, Nat.reduceEqDiff, Nat.reduceAdd, Nat.reduceSub, Nat.reduceMul, Nat.reduceLeDiff, Nat.reduceLT, Int.reduceLT, Int.reduceLE, Int.reduceEq, Int.reduceToNat, reduceCtorEq, FB, FT, hi, h, hg, hlm, hll, cx_laws_markEntryS, cl_laws_markText, sem_laws_markText, wrapI, splice_eq, set_getD, set_set, hf]
      rw [show ((i : Nat) : Int) + 1 = ((i + 1 : Nat) : Int) by omega]
      have hih := ih (a.1 ++ [(mkEntry xs[i] a.2)], (((a.2 + 1) + 1) + 1)) ⟨by simp [hy], by show 1 ≤ (((a.2 + 1) + 1) + 1); omega, by show (((a.2 + 1) + 1) + 1) + _ ≤ _; omega⟩
      simp only [mkEntry] at hih
      rw [hih]
      simp only [hk, tot, mkL, List.append_assoc, List.singleton_append]
      rw [show a.2 + ((ctEntry xs[i] : Nat) : Int) + ((tot ctEntry (xs.drop (i + 1)) : Nat) : Int) = a.2 + ((ctEntry xs[i] + tot ctEntry (xs.drop (i + 1)) : Nat) : Int) by omega]
      try rfl
  rw [sg_laws_markEntryS, sem_goM]
  simp (maxSteps := 10000000) (disch := first | assumption | omega) only [F_laws_markEntryS, params, EG, EL, ↓reduceIte, Nat.reduceEqDiff, Nat.reduceAdd, Nat.reduceSub, Nat.reduceMul, Nat.reduceLeDiff, Nat.reduceLT, Int.reduceLT, Int.reduceLE, Int.reduceEq, Int.reduceToNat, reduceCtorEq, FB, FT, cx_laws_markEntryS, cl_laws_markText, sem_laws_markText, loop]
theorem sem_laws_markMonitorS (xs : List DMonitor) (k : Int) (h1 : 1 ≤ k) (h2 : k + (tot ctMonitor xs : Nat) ≤ 4611686018427387000) : S_laws_markMonitorS.sem [.tree 4 (xs.map cMonitor), .int .i64 k] = some (.int .i64 (k + (tot ctMonitor xs : Nat)), (mkL mkMonitor ctMonitor xs k).map cMonitor) := by
  have hlen : xs.length ≤ tot ctMonitor xs := len_tot fun x => by unfold ctMonitor; omega
  have loop : loopV X_laws_markMonitorS 1 [0, 1, 5] [(1, [1])] B0_laws_markMonitorS ⟨[(0, .sl ⟨0, none, 0⟩ 4 0 xs.length), (1, .int .i64 k), (5, .int .i64 0)], [some ⟨false, 0, 4, xs.map cMonitor⟩]⟩ = some (.exit 0, ⟨[(1, .int .i64 (k + (tot ctMonitor xs : Nat)))], [some ⟨false, 0, 4, (mkL mkMonitor ctMonitor xs k).map cMonitor⟩]⟩) := by
    refine loop_list xs (fun i (a : List DMonitor × Int) => a.1.length = i ∧ 1 ≤ a.2 ∧ a.2 + (tot ctMonitor (xs.drop i) : Nat) ≤ 4611686018427387000) (fun i a => ⟨[(0, .sl ⟨0, none, 0⟩ 4 0 xs.length), (1, .int .i64 a.2), (5, .int .i64 ((i : Nat) : Int))], [some ⟨false, 0, 4, (a.1 ++ xs.drop i).map cMonitor⟩]⟩) (fun rest a => some (.exit 0, ⟨[(1, .int .i64 (a.2 + (tot ctMonitor rest : Nat)))], [some ⟨false, 0, 4, (a.1 ++ mkL mkMonitor ctMonitor rest a.2).map cMonitor⟩]⟩)) ?_ ?_ ([], k) ⟨rfl, h1, h2⟩
    · rintro a ⟨hy, a1, a2⟩
      rw [loopV_by B0_laws_markMonitorS.eq_1]
      simp only [EG, EL, ↓reduceIte, Nat.reduceEqDiff, Nat.reduceAdd, Nat.reduceSub, Nat.reduceMul, Nat.reduceLeDiff, Nat.reduceLT, Int.reduceLT, Int.reduceLE, Int.reduceEq, Int.reduceToNat, reduceCtorEq, int_lt_irrefl, List.drop_length, tot, mkL, Int.natCast_zero, Int.add_zero]
    · rintro i h x rest a rfl rfl ⟨hy, a1, a2⟩ ih
      have hi : (i : Int) < (xs.length : Int) := by omega
      have hd : xs.drop i = xs[i] :: xs.drop (i + 1) := List.drop_eq_getElem_cons h
      have ht : tot ctMonitor (xs.drop i) = ctMonitor xs[i] + tot ctMonitor (xs.drop (i + 1)) := by rw [hd]; rfl
      have hc : ctMonitor xs[i] = 1 + tot ct1 xs[i].Vars + tot ct1 xs[i].Queues + tot ctEntry xs[i].Entries := rfl
      have hlm : i < ((a.1 ++ xs.drop i).map cMonitor).length := by rw [mid_len hy h]; exact h
      have hll : i < a.1.length + (xs.drop i).length := by rw [List.length_drop]; omega
      have hg := mid_get (c := cMonitor) hy h
      have hf := mid_set (c := cMonitor) hy h (x := (mkMonitor xs[i] a.2)) rfl
      have hk : ((((a.2 + 1) + (tot ct1 xs[i].Vars : Nat)) + (tot ct1 xs[i].Queues : Nat)) + (tot ctEntry xs[i].Entries : Nat)) = a.2 + ((ctMonitor xs[i] : Nat) : Int) := by rw [hc]; omega
      simp only [cMonitor, mkMonitor] at hf
      rw [loopV_by B0_laws_markMonitorS.eq_1]
      simp (maxSteps := 10000000) (disch := first | assumption | omega) only [EG, EL, ↓reduceIte, Nat.reduceEqDiff, Nat.reduceAdd, Nat.reduceSub, Nat.reduceMul, Nat.reduceLeDiff, Nat.reduceLT, Int.reduceLT, Int.reduceLE, Int.reduceEq, Int.reduceToNat, reduceCtorEq, FB, FT, hi, h, hg, hlm, hll, cx_laws_markMonitorS, cl_laws_markText, sem_laws_markText, cl_laws_markStringS, sem_laws_markStringS, cl_laws_markEntryS, sem_laws_markEntryS, wrapI, splice_eq, set_getD, set_set, hf]
      rw [show ((i : Nat) : Int) + 1 = ((i + 1 : Nat) : Int) by omega]
      have hih := ih (a.1 ++ [(mkMonitor xs[i] a.2)], ((((a.2 + 1) + (tot ct1 xs[i].Vars : Nat)) + (tot ct1 xs[i].Queues : Nat)) + (tot ctEntry xs[i].Entries : Nat))) ⟨by simp [hy], by show 1 ≤ ((((a.2 + 1) + (tot ct1 xs[i].Vars : Nat)) + (tot ct1 xs[i].Queues : Nat)) + (tot ctEntry xs[i].Entries : Nat)); omega, by show ((((a.2 + 1) + (tot ct1 xs[i].Vars : Nat)) + (tot ct1 xs[i].Queues : Nat)) + (tot ctEntry xs[i].Entries : Nat)) + _ ≤ _; omega⟩
      simp only [mkMonitor] at hih
      rw [hih]
      simp only [hk, tot, mkL, List.append_assoc, List.singleton_append]
      rw [show a.2 + ((ctMonitor xs[i] : Nat) : Int) + ((tot ctMonitor (xs.drop (i + 1)) : Nat) : Int) = a.2 + ((ctMonitor xs[i] + tot ctMonitor (xs.drop (i + 1)) : Nat) : Int) by omega]
      try rfl
  rw [sg_laws_markMonitorS, sem_goM]
  simp (maxSteps := 10000000) (disch := first | assumption | omega) only [F_laws_markMonitorS, params, EG, EL, ↓reduceIte, Nat.reduceEqDiff, Nat.reduceAdd, Nat.reduceSub, Nat.reduceMul, Nat.reduceLeDiff, Nat.reduceLT, Int.reduceLT, Int.reduceLE, Int.reduceEq, Int.reduceToNat, reduceCtorEq, FB, FT, cx_laws_markMonitorS, cl_laws_markText, sem_laws_markText, cl_laws_markStringS, sem_laws_markStringS, cl_laws_markEntryS, sem_laws_markEntryS, loop]
theorem sem_laws_markProcessS (xs : List DProcess) (k : Int) (h1 : 1 ≤ k) (h2 : k + (tot ctProcess xs : Nat) ≤ 4611686018427387000) : S_laws_markProcessS.sem [.tree 4 (xs.map cProcess), .int .i64 k] = some (.int .i64 (k + (tot ctProcess xs : Nat)), (mkL mkProcess ctProcess xs k).map cProcess) := by
  have hlen : xs.length ≤ tot ctProcess xs := len_tot fun x => by unfold ctProcess; omega
  have loop : loopV X_laws_markProcessS 1 [0, 1, 5] [(1, [1])] B0_laws_markProcessS ⟨[(0, .sl ⟨0, none, 0⟩ 4 0 xs.length), (1, .int .i64 k), (5, .int .i64 0)], [some ⟨false, 0, 4, xs.map cProcess⟩]⟩ = some (.exit 0, ⟨[(1, .int .i64 (k + (tot ctProcess xs : Nat)))], [some ⟨false, 0, 4, (mkL mkProcess ctProcess xs k).map cProcess⟩]⟩) := by
    refine loop_list xs (fun i (a : List DProcess × Int) => a.1.length = i ∧ 1 ≤ a.2 ∧ a.2 + (tot ctProcess (xs.drop i) : Nat) ≤ 4611686018427387000) (fun i a => ⟨[(0, .sl ⟨0, none, 0⟩ 4 0 xs.length), (1, .int .i64 a.2), (5, .int .i64 ((i : Nat) : Int))], [some ⟨false, 0, 4, (a.1 ++ xs.drop i).map cProcess⟩]⟩) (fun rest a => some (.exit 0, ⟨[(1, .int .i64 (a.2 + (tot ctProcess rest : Nat)))], [some ⟨false, 0, 4, (a.1 ++ mkL mkProcess ctProcess rest a.2).map cProcess⟩]⟩)) ?_ ?_ ([], k) ⟨rfl, h1, h2⟩
    · rintro a ⟨hy, a1, a2⟩
      rw [loopV_by B0_laws_markProcessS.eq_1]
      simp only [EG, EL, ↓reduceIte, Nat.reduceEqDiff, Nat.reduceAdd, Nat.reduceSub, Nat.reduceMul, Nat.reduceLeDiff, Nat.reduceLT, Int.reduceLT, Int.reduceLE, Int.reduceEq, Int.reduceToNat, reduceCtorEq, int_lt_irrefl, List.drop_length, tot, mkL, Int.natCast_zero, Int.add_zero]
    · rintro i h x rest a rfl rfl ⟨hy, a1, a2⟩ ih
      have hi : (i : Int) < (xs.length : Int) := by omega
      have hd : xs.drop i = xs[i] :: xs.drop (i + 1) := List.drop_eq_getElem_cons h
      have ht : tot ctProcess (xs.drop i) = ctProcess xs[i] + tot ctProcess (xs.drop (i + 1)) := by rw [hd]; rfl
      have hc : ctProcess xs[i] = 1 + tot ct1 xs[i].Uses + tot ct1 xs[i].Vars + 1 := rfl
      have hlm : i < ((a.1 ++ xs.drop i).map cProcess).length := by rw [mid_len hy h]; exact h
      have hll : i < a.1.length + (xs.drop i).length := by rw [List.length_drop]; omega
      have hg := mid_get (c := cProcess) hy h
      have hf := mid_set (c := cProcess) hy h (x := (mkProcess xs[i] a.2)) rfl
      have hk : ((((a.2 + 1) + (tot ct1 xs[i].Uses : Nat)) + (tot ct1 xs[i].Vars : Nat)) + 1) = a.2 + ((ctProcess xs[i] : Nat) : Int) := by rw [hc]; omega
      simp only [cProcess, mkProcess] at hf
      rw [loopV_by B0_laws_markProcessS.eq_1]
      simp (maxSteps := 10000000) (disch := first | assumption | omega) only [EG, EL, ↓reduceIte, Nat.reduceEqDiff, Nat.reduceAdd, Nat.reduceSub, Nat.reduceMul, Nat.reduceLeDiff, Nat.reduceLT, Int.reduceLT, Int.reduceLE, Int.reduceEq, Int.reduceToNat, reduceCtorEq, FB, FT, hi, h, hg, hlm, hll, cx_laws_markProcessS, cl_laws_markText, sem_laws_markText, cl_laws_markStringS, sem_laws_markStringS, wrapI, splice_eq, set_getD, set_set, hf]
      rw [show ((i : Nat) : Int) + 1 = ((i + 1 : Nat) : Int) by omega]
      have hih := ih (a.1 ++ [(mkProcess xs[i] a.2)], ((((a.2 + 1) + (tot ct1 xs[i].Uses : Nat)) + (tot ct1 xs[i].Vars : Nat)) + 1)) ⟨by simp [hy], by show 1 ≤ ((((a.2 + 1) + (tot ct1 xs[i].Uses : Nat)) + (tot ct1 xs[i].Vars : Nat)) + 1); omega, by show ((((a.2 + 1) + (tot ct1 xs[i].Uses : Nat)) + (tot ct1 xs[i].Vars : Nat)) + 1) + _ ≤ _; omega⟩
      simp only [mkProcess] at hih
      rw [hih]
      simp only [hk, tot, mkL, List.append_assoc, List.singleton_append]
      rw [show a.2 + ((ctProcess xs[i] : Nat) : Int) + ((tot ctProcess (xs.drop (i + 1)) : Nat) : Int) = a.2 + ((ctProcess xs[i] + tot ctProcess (xs.drop (i + 1)) : Nat) : Int) by omega]
      try rfl
  rw [sg_laws_markProcessS, sem_goM]
  simp (maxSteps := 10000000) (disch := first | assumption | omega) only [F_laws_markProcessS, params, EG, EL, ↓reduceIte, Nat.reduceEqDiff, Nat.reduceAdd, Nat.reduceSub, Nat.reduceMul, Nat.reduceLeDiff, Nat.reduceLT, Int.reduceLT, Int.reduceLE, Int.reduceEq, Int.reduceToNat, reduceCtorEq, FB, FT, cx_laws_markProcessS, cl_laws_markText, sem_laws_markText, cl_laws_markStringS, sem_laws_markStringS, loop]
theorem sem_laws_markGateS (xs : List DGate) (k : Int) (h1 : 1 ≤ k) (h2 : k + (tot ctGate xs : Nat) ≤ 4611686018427387000) : S_laws_markGateS.sem [.tree 3 (xs.map cGate), .int .i64 k] = some (.int .i64 (k + (tot ctGate xs : Nat)), (mkL mkGate ctGate xs k).map cGate) := by
  have hlen : xs.length ≤ tot ctGate xs := len_tot fun x => by unfold ctGate; omega
  have loop : loopV X_laws_markGateS 1 [0, 1, 5] [(1, [1])] B0_laws_markGateS ⟨[(0, .sl ⟨0, none, 0⟩ 3 0 xs.length), (1, .int .i64 k), (5, .int .i64 0)], [some ⟨false, 0, 3, xs.map cGate⟩]⟩ = some (.exit 0, ⟨[(1, .int .i64 (k + (tot ctGate xs : Nat)))], [some ⟨false, 0, 3, (mkL mkGate ctGate xs k).map cGate⟩]⟩) := by
    refine loop_list xs (fun i (a : List DGate × Int) => a.1.length = i ∧ 1 ≤ a.2 ∧ a.2 + (tot ctGate (xs.drop i) : Nat) ≤ 4611686018427387000) (fun i a => ⟨[(0, .sl ⟨0, none, 0⟩ 3 0 xs.length), (1, .int .i64 a.2), (5, .int .i64 ((i : Nat) : Int))], [some ⟨false, 0, 3, (a.1 ++ xs.drop i).map cGate⟩]⟩) (fun rest a => some (.exit 0, ⟨[(1, .int .i64 (a.2 + (tot ctGate rest : Nat)))], [some ⟨false, 0, 3, (a.1 ++ mkL mkGate ctGate rest a.2).map cGate⟩]⟩)) ?_ ?_ ([], k) ⟨rfl, h1, h2⟩
    · rintro a ⟨hy, a1, a2⟩
      rw [loopV_by B0_laws_markGateS.eq_1]
      simp only [EG, EL, ↓reduceIte, Nat.reduceEqDiff, Nat.reduceAdd, Nat.reduceSub, Nat.reduceMul, Nat.reduceLeDiff, Nat.reduceLT, Int.reduceLT, Int.reduceLE, Int.reduceEq, Int.reduceToNat, reduceCtorEq, int_lt_irrefl, List.drop_length, tot, mkL, Int.natCast_zero, Int.add_zero]
    · rintro i h x rest a rfl rfl ⟨hy, a1, a2⟩ ih
      have hi : (i : Int) < (xs.length : Int) := by omega
      have hd : xs.drop i = xs[i] :: xs.drop (i + 1) := List.drop_eq_getElem_cons h
      have ht : tot ctGate (xs.drop i) = ctGate xs[i] + tot ctGate (xs.drop (i + 1)) := by rw [hd]; rfl
      have hc : ctGate xs[i] = 1 + tot ct1 xs[i].Waits + tot ct1 xs[i].Queues := rfl
      have hlm : i < ((a.1 ++ xs.drop i).map cGate).length := by rw [mid_len hy h]; exact h
      have hll : i < a.1.length + (xs.drop i).length := by rw [List.length_drop]; omega
      have hg := mid_get (c := cGate) hy h
      have hf := mid_set (c := cGate) hy h (x := (mkGate xs[i] a.2)) rfl
      have hk : (((a.2 + 1) + (tot ct1 xs[i].Waits : Nat)) + (tot ct1 xs[i].Queues : Nat)) = a.2 + ((ctGate xs[i] : Nat) : Int) := by rw [hc]; omega
      simp only [cGate, mkGate] at hf
      rw [loopV_by B0_laws_markGateS.eq_1]
      simp (maxSteps := 10000000) (disch := first | assumption | omega) only [EG, EL, ↓reduceIte, Nat.reduceEqDiff, Nat.reduceAdd, Nat.reduceSub, Nat.reduceMul, Nat.reduceLeDiff, Nat.reduceLT, Int.reduceLT, Int.reduceLE, Int.reduceEq, Int.reduceToNat, reduceCtorEq, FB, FT, hi, h, hg, hlm, hll, cx_laws_markGateS, cl_laws_markIntS, sem_laws_markIntS, wrapI, splice_eq, set_getD, set_set, hf]
      rw [show ((i : Nat) : Int) + 1 = ((i + 1 : Nat) : Int) by omega]
      have hih := ih (a.1 ++ [(mkGate xs[i] a.2)], (((a.2 + 1) + (tot ct1 xs[i].Waits : Nat)) + (tot ct1 xs[i].Queues : Nat))) ⟨by simp [hy], by show 1 ≤ (((a.2 + 1) + (tot ct1 xs[i].Waits : Nat)) + (tot ct1 xs[i].Queues : Nat)); omega, by show (((a.2 + 1) + (tot ct1 xs[i].Waits : Nat)) + (tot ct1 xs[i].Queues : Nat)) + _ ≤ _; omega⟩
      simp only [mkGate] at hih
      rw [hih]
      simp only [hk, tot, mkL, List.append_assoc, List.singleton_append]
      rw [show a.2 + ((ctGate xs[i] : Nat) : Int) + ((tot ctGate (xs.drop (i + 1)) : Nat) : Int) = a.2 + ((ctGate xs[i] + tot ctGate (xs.drop (i + 1)) : Nat) : Int) by omega]
      try rfl
  rw [sg_laws_markGateS, sem_goM]
  simp (maxSteps := 10000000) (disch := first | assumption | omega) only [F_laws_markGateS, params, EG, EL, ↓reduceIte, Nat.reduceEqDiff, Nat.reduceAdd, Nat.reduceSub, Nat.reduceMul, Nat.reduceLeDiff, Nat.reduceLT, Int.reduceLT, Int.reduceLE, Int.reduceEq, Int.reduceToNat, reduceCtorEq, FB, FT, cx_laws_markGateS, cl_laws_markIntS, sem_laws_markIntS, loop]
theorem sem_laws_markCoreS (xs : List DCore) (k : Int) (h1 : 1 ≤ k) (h2 : k + (tot ctCore xs : Nat) ≤ 4611686018427387000) : S_laws_markCoreS.sem [.tree 3 (xs.map cCore), .int .i64 k] = some (.int .i64 (k + (tot ctCore xs : Nat)), (mkL mkCore ctCore xs k).map cCore) := by
  have hlen : xs.length ≤ tot ctCore xs := len_tot fun x => by unfold ctCore; omega
  have loop : loopV X_laws_markCoreS 1 [0, 1, 5] [(1, [1])] B0_laws_markCoreS ⟨[(0, .sl ⟨0, none, 0⟩ 3 0 xs.length), (1, .int .i64 k), (5, .int .i64 0)], [some ⟨false, 0, 3, xs.map cCore⟩]⟩ = some (.exit 0, ⟨[(1, .int .i64 (k + (tot ctCore xs : Nat)))], [some ⟨false, 0, 3, (mkL mkCore ctCore xs k).map cCore⟩]⟩) := by
    refine loop_list xs (fun i (a : List DCore × Int) => a.1.length = i ∧ 1 ≤ a.2 ∧ a.2 + (tot ctCore (xs.drop i) : Nat) ≤ 4611686018427387000) (fun i a => ⟨[(0, .sl ⟨0, none, 0⟩ 3 0 xs.length), (1, .int .i64 a.2), (5, .int .i64 ((i : Nat) : Int))], [some ⟨false, 0, 3, (a.1 ++ xs.drop i).map cCore⟩]⟩) (fun rest a => some (.exit 0, ⟨[(1, .int .i64 (a.2 + (tot ctCore rest : Nat)))], [some ⟨false, 0, 3, (a.1 ++ mkL mkCore ctCore rest a.2).map cCore⟩]⟩)) ?_ ?_ ([], k) ⟨rfl, h1, h2⟩
    · rintro a ⟨hy, a1, a2⟩
      rw [loopV_by B0_laws_markCoreS.eq_1]
      simp only [EG, EL, ↓reduceIte, Nat.reduceEqDiff, Nat.reduceAdd, Nat.reduceSub, Nat.reduceMul, Nat.reduceLeDiff, Nat.reduceLT, Int.reduceLT, Int.reduceLE, Int.reduceEq, Int.reduceToNat, reduceCtorEq, int_lt_irrefl, List.drop_length, tot, mkL, Int.natCast_zero, Int.add_zero]
    · rintro i h x rest a rfl rfl ⟨hy, a1, a2⟩ ih
      have hi : (i : Int) < (xs.length : Int) := by omega
      have hd : xs.drop i = xs[i] :: xs.drop (i + 1) := List.drop_eq_getElem_cons h
      have ht : tot ctCore (xs.drop i) = ctCore xs[i] + tot ctCore (xs.drop (i + 1)) := by rw [hd]; rfl
      have hc : ctCore xs[i] = tot ct1 xs[i].Regs + 1 + 1 := rfl
      have hlm : i < ((a.1 ++ xs.drop i).map cCore).length := by rw [mid_len hy h]; exact h
      have hll : i < a.1.length + (xs.drop i).length := by rw [List.length_drop]; omega
      have hg := mid_get (c := cCore) hy h
      have hf := mid_set (c := cCore) hy h (x := (mkCore xs[i] a.2)) rfl
      have hk : (((a.2 + (tot ct1 xs[i].Regs : Nat)) + 1) + 1) = a.2 + ((ctCore xs[i] : Nat) : Int) := by rw [hc]; omega
      simp only [cCore, mkCore] at hf
      rw [loopV_by B0_laws_markCoreS.eq_1]
      simp (maxSteps := 10000000) (disch := first | assumption | omega) only [EG, EL, ↓reduceIte, Nat.reduceEqDiff, Nat.reduceAdd, Nat.reduceSub, Nat.reduceMul, Nat.reduceLeDiff, Nat.reduceLT, Int.reduceLT, Int.reduceLE, Int.reduceEq, Int.reduceToNat, reduceCtorEq, FB, FT, hi, h, hg, hlm, hll, cx_laws_markCoreS, cl_laws_markIntS, sem_laws_markIntS, wrapI, splice_eq, set_getD, set_set, hf]
      rw [show ((i : Nat) : Int) + 1 = ((i + 1 : Nat) : Int) by omega]
      have hih := ih (a.1 ++ [(mkCore xs[i] a.2)], (((a.2 + (tot ct1 xs[i].Regs : Nat)) + 1) + 1)) ⟨by simp [hy], by show 1 ≤ (((a.2 + (tot ct1 xs[i].Regs : Nat)) + 1) + 1); omega, by show (((a.2 + (tot ct1 xs[i].Regs : Nat)) + 1) + 1) + _ ≤ _; omega⟩
      simp only [mkCore] at hih
      rw [hih]
      simp only [hk, tot, mkL, List.append_assoc, List.singleton_append]
      rw [show a.2 + ((ctCore xs[i] : Nat) : Int) + ((tot ctCore (xs.drop (i + 1)) : Nat) : Int) = a.2 + ((ctCore xs[i] + tot ctCore (xs.drop (i + 1)) : Nat) : Int) by omega]
      try rfl
  rw [sg_laws_markCoreS, sem_goM]
  simp (maxSteps := 10000000) (disch := first | assumption | omega) only [F_laws_markCoreS, params, EG, EL, ↓reduceIte, Nat.reduceEqDiff, Nat.reduceAdd, Nat.reduceSub, Nat.reduceMul, Nat.reduceLeDiff, Nat.reduceLT, Int.reduceLT, Int.reduceLE, Int.reduceEq, Int.reduceToNat, reduceCtorEq, FB, FT, cx_laws_markCoreS, cl_laws_markIntS, sem_laws_markIntS, loop]
theorem sem_laws_markBoolS (xs : List Bool) (k : Int) (h1 : 1 ≤ k) (h2 : k + (tot ct1 xs : Nat) ≤ 4611686018427387000) : S_laws_markBoolS.sem [.tree 1 (xs.map cB), .int .i64 k] = some (.int .i64 (k + (tot ct1 xs : Nat)), (mkL mkB ct1 xs k).map cB) := by
  have hlen : xs.length ≤ tot ct1 xs := len_ct1
  have loop : loopV X_laws_markBoolS 1 [0, 1, 5] [(1, [1])] B0_laws_markBoolS ⟨[(0, .sl ⟨0, none, 0⟩ 1 0 xs.length), (1, .int .i64 k), (5, .int .i64 0)], [some ⟨false, 0, 1, xs.map cB⟩]⟩ = some (.exit 0, ⟨[(1, .int .i64 (k + (tot ct1 xs : Nat)))], [some ⟨false, 0, 1, (mkL mkB ct1 xs k).map cB⟩]⟩) := by
    refine loop_list xs (fun i (a : List Bool × Int) => a.1.length = i ∧ 1 ≤ a.2 ∧ a.2 + (tot ct1 (xs.drop i) : Nat) ≤ 4611686018427387000) (fun i a => ⟨[(0, .sl ⟨0, none, 0⟩ 1 0 xs.length), (1, .int .i64 a.2), (5, .int .i64 ((i : Nat) : Int))], [some ⟨false, 0, 1, (a.1 ++ xs.drop i).map cB⟩]⟩) (fun rest a => some (.exit 0, ⟨[(1, .int .i64 (a.2 + (tot ct1 rest : Nat)))], [some ⟨false, 0, 1, (a.1 ++ mkL mkB ct1 rest a.2).map cB⟩]⟩)) ?_ ?_ ([], k) ⟨rfl, h1, h2⟩
    · rintro a ⟨hy, a1, a2⟩
      rw [loopV_by B0_laws_markBoolS.eq_1]
      simp only [EG, EL, ↓reduceIte, Nat.reduceEqDiff, Nat.reduceAdd, Nat.reduceSub, Nat.reduceMul, Nat.reduceLeDiff, Nat.reduceLT, Int.reduceLT, Int.reduceLE, Int.reduceEq, Int.reduceToNat, reduceCtorEq, int_lt_irrefl, List.drop_length, tot, mkL, Int.natCast_zero, Int.add_zero]
    · rintro i h x rest a rfl rfl ⟨hy, a1, a2⟩ ih
      have hi : (i : Int) < (xs.length : Int) := by omega
      have hd : xs.drop i = xs[i] :: xs.drop (i + 1) := List.drop_eq_getElem_cons h
      have ht : tot ct1 (xs.drop i) = ct1 xs[i] + tot ct1 (xs.drop (i + 1)) := by rw [hd]; rfl
      have hc : ct1 xs[i] = 1 := rfl
      have hlm : i < ((a.1 ++ xs.drop i).map cB).length := by rw [mid_len hy h]; exact h
      have hll : i < a.1.length + (xs.drop i).length := by rw [List.length_drop]; omega
      have hg := mid_get (c := cB) hy h
      have hf := mid_set (c := cB) hy h (x := (decide (Int.tmod a.2 3 = 0))) rfl
      have hk : (a.2 + 1) = a.2 + ((ct1 xs[i] : Nat) : Int) := by rw [hc]; omega
      simp only [cB] at hf
      rw [loopV_by B0_laws_markBoolS.eq_1]
      simp (maxSteps := 10000000) (disch := first | assumption | omega) only [EG, EL, ↓reduceIte, Nat.reduceEqDiff, Nat.reduceAdd, Nat.reduceSub, Nat.reduceMul, Nat.reduceLeDiff, Nat.reduceLT, Int.reduceLT, Int.reduceLE, Int.reduceEq, Int.reduceToNat, reduceCtorEq, FB, FT, hi, h, hg, hlm, hll, cx_laws_markBoolS, wrapI, splice_eq, set_getD, set_set, hf]
      rw [show ((i : Nat) : Int) + 1 = ((i + 1 : Nat) : Int) by omega]
      have hih := ih (a.1 ++ [(decide (Int.tmod a.2 3 = 0))], (a.2 + 1)) ⟨by simp [hy], by show 1 ≤ (a.2 + 1); omega, by show (a.2 + 1) + _ ≤ _; omega⟩
      simp only [eq_self] at hih
      rw [hih]
      simp only [hk, tot, mkL, List.append_assoc, List.singleton_append]
      rw [show a.2 + ((ct1 xs[i] : Nat) : Int) + ((tot ct1 (xs.drop (i + 1)) : Nat) : Int) = a.2 + ((ct1 xs[i] + tot ct1 (xs.drop (i + 1)) : Nat) : Int) by omega]
      try rfl
  rw [sg_laws_markBoolS, sem_goM]
  simp (maxSteps := 10000000) (disch := first | assumption | omega) only [F_laws_markBoolS, params, EG, EL, ↓reduceIte, Nat.reduceEqDiff, Nat.reduceAdd, Nat.reduceSub, Nat.reduceMul, Nat.reduceLeDiff, Nat.reduceLT, Int.reduceLT, Int.reduceLE, Int.reduceEq, Int.reduceToNat, reduceCtorEq, FB, FT, cx_laws_markBoolS, loop]
theorem sem_laws_heldIntS (xs : List Int) (k : Int) (h1 : 1 ≤ k) (h2 : k + (tot ct1 xs : Nat) ≤ 4611686018427387000) : S_laws_heldIntS.sem [.tree 1 ((mkL mkI ct1 xs k).map cI), .int .i64 k] = some (.int .i64 (k + (tot ct1 xs : Nat)), []) := by
  have hlen : xs.length ≤ tot ct1 xs := len_ct1
  have hML : (mkL mkI ct1 xs k).length = xs.length := mkL_length
  have loop : loopV X_laws_heldIntS 0 [0, 1, 5] [(1, [1]), (0, [4])] B0_laws_heldIntS ⟨[(0, .tree 1 ((mkL mkI ct1 xs k).map cI)), (1, .int .i64 k), (5, .int .i64 0)], []⟩ = some (Ex.exit 0, (⟨[(1, .int .i64 (k + (tot ct1 xs : Nat)))], []⟩ : St)) := by
    refine loop_list xs (fun i (m : Int) => m = k + (tot ct1 (xs.take i) : Nat)) (fun i m => ⟨[(0, .tree 1 ((mkL mkI ct1 xs k).map cI)), (1, .int .i64 m), (5, .int .i64 ((i : Nat) : Int))], []⟩) (fun rest a => some (Ex.exit 0, (⟨[(1, .int .i64 (k + (tot ct1 xs : Nat)))], []⟩ : St))) ?_ ?_ k (by simp [tot])
    · rintro m rfl
      rw [loopV_by B0_laws_heldIntS.eq_1]
      simp only [EG, EL, ↓reduceIte, Nat.reduceEqDiff, Nat.reduceAdd, Nat.reduceSub, Nat.reduceMul, Nat.reduceLeDiff, Nat.reduceLT, Int.reduceLT, Int.reduceLE, Int.reduceEq, Int.reduceToNat, reduceCtorEq, int_lt_irrefl, hML, tot_take_end]
    · rintro i h x rest m rfl rfl hm ih
      have hi : (i : Int) < (xs.length : Int) := by omega
      have ht := tot_take_le (f := ct1) h
      have hs := tot_take1 (f := ct1) h
      have hc : ct1 xs[i] = 1 := rfl
      have hg : ((mkL mkI ct1 xs k).map cI).getD i [] = cI (mkI xs[i] m) := by
        have h' : i < (mkL mkI ct1 xs k).length := by omega
        rw [getRow _ _ h', mkL_get h, hm]
      simp only [cI, mkI] at hg
      rw [loopV_by B0_laws_heldIntS.eq_1]
      simp (maxSteps := 10000000) (disch := first | assumption | omega) only [EG, EL, ↓reduceIte, Nat.reduceEqDiff, Nat.reduceAdd, Nat.reduceSub, Nat.reduceMul, Nat.reduceLeDiff, Nat.reduceLT, Int.reduceLT, Int.reduceLE, Int.reduceEq, Int.reduceToNat, reduceCtorEq, FB, FT, hi, hML, hg, cx_laws_heldIntS, wrapI]
      repeat rw [if_neg (by omega)]
      rw [show ((i : Nat) : Int) + 1 = ((i + 1 : Nat) : Int) by omega]
      exact ih _ (by omega)
  rw [sg_laws_heldIntS, sem_go]
  simp (maxSteps := 10000000) (disch := first | assumption | omega) only [F_laws_heldIntS, params, EG, EL, ↓reduceIte, Nat.reduceEqDiff, Nat.reduceAdd, Nat.reduceSub, Nat.reduceMul, Nat.reduceLeDiff, Nat.reduceLT, Int.reduceLT, Int.reduceLE, Int.reduceEq, Int.reduceToNat, reduceCtorEq, FB, FT, cx_laws_heldIntS, loop]
theorem sem_laws_heldGateS (xs : List DGate) (k : Int) (h1 : 1 ≤ k) (h2 : k + (tot ctGate xs : Nat) ≤ 4611686018427387000) : S_laws_heldGateS.sem [.tree 3 ((mkL mkGate ctGate xs k).map cGate), .int .i64 k] = some (.int .i64 (k + (tot ctGate xs : Nat)), []) := by
  have hlen : xs.length ≤ tot ctGate xs := len_tot fun x => by unfold ctGate; omega
  have hML : (mkL mkGate ctGate xs k).length = xs.length := mkL_length
  have loop : loopV X_laws_heldGateS 0 [0, 1, 5] [(1, [1]), (0, [4])] B0_laws_heldGateS ⟨[(0, .tree 3 ((mkL mkGate ctGate xs k).map cGate)), (1, .int .i64 k), (5, .int .i64 0)], []⟩ = some (Ex.exit 0, (⟨[(1, .int .i64 (k + (tot ctGate xs : Nat)))], []⟩ : St)) := by
    refine loop_list xs (fun i (m : Int) => m = k + (tot ctGate (xs.take i) : Nat)) (fun i m => ⟨[(0, .tree 3 ((mkL mkGate ctGate xs k).map cGate)), (1, .int .i64 m), (5, .int .i64 ((i : Nat) : Int))], []⟩) (fun rest a => some (Ex.exit 0, (⟨[(1, .int .i64 (k + (tot ctGate xs : Nat)))], []⟩ : St))) ?_ ?_ k (by simp [tot])
    · rintro m rfl
      rw [loopV_by B0_laws_heldGateS.eq_1]
      simp only [EG, EL, ↓reduceIte, Nat.reduceEqDiff, Nat.reduceAdd, Nat.reduceSub, Nat.reduceMul, Nat.reduceLeDiff, Nat.reduceLT, Int.reduceLT, Int.reduceLE, Int.reduceEq, Int.reduceToNat, reduceCtorEq, int_lt_irrefl, hML, tot_take_end]
    · rintro i h x rest m rfl rfl hm ih
      have hi : (i : Int) < (xs.length : Int) := by omega
      have ht := tot_take_le (f := ctGate) h
      have hs := tot_take1 (f := ctGate) h
      have hc : ctGate xs[i] = 1 + tot ct1 xs[i].Waits + tot ct1 xs[i].Queues := rfl
      have hg : ((mkL mkGate ctGate xs k).map cGate).getD i [] = cGate (mkGate xs[i] m) := by
        have h' : i < (mkL mkGate ctGate xs k).length := by omega
        rw [getRow _ _ h', mkL_get h, hm]
      simp only [cGate, mkGate] at hg
      rw [loopV_by B0_laws_heldGateS.eq_1]
      simp (maxSteps := 10000000) (disch := first | assumption | omega) only [EG, EL, ↓reduceIte, Nat.reduceEqDiff, Nat.reduceAdd, Nat.reduceSub, Nat.reduceMul, Nat.reduceLeDiff, Nat.reduceLT, Int.reduceLT, Int.reduceLE, Int.reduceEq, Int.reduceToNat, reduceCtorEq, FB, FT, hi, hML, hg, cx_laws_heldGateS, cl_laws_heldIntS, sem_laws_heldIntS, wrapI]
      repeat rw [if_neg (by omega)]
      rw [show ((i : Nat) : Int) + 1 = ((i + 1 : Nat) : Int) by omega]
      exact ih _ (by omega)
  rw [sg_laws_heldGateS, sem_go]
  simp (maxSteps := 10000000) (disch := first | assumption | omega) only [F_laws_heldGateS, params, EG, EL, ↓reduceIte, Nat.reduceEqDiff, Nat.reduceAdd, Nat.reduceSub, Nat.reduceMul, Nat.reduceLeDiff, Nat.reduceLT, Int.reduceLT, Int.reduceLE, Int.reduceEq, Int.reduceToNat, reduceCtorEq, FB, FT, cx_laws_heldGateS, cl_laws_heldIntS, sem_laws_heldIntS, loop]
theorem sem_laws_heldCoreS (xs : List DCore) (k : Int) (h1 : 1 ≤ k) (h2 : k + (tot ctCore xs : Nat) ≤ 4611686018427387000) : S_laws_heldCoreS.sem [.tree 3 ((mkL mkCore ctCore xs k).map cCore), .int .i64 k] = some (.int .i64 (k + (tot ctCore xs : Nat)), []) := by
  have hlen : xs.length ≤ tot ctCore xs := len_tot fun x => by unfold ctCore; omega
  have hML : (mkL mkCore ctCore xs k).length = xs.length := mkL_length
  have loop : loopV X_laws_heldCoreS 0 [0, 1, 5] [(1, [1]), (0, [4])] B0_laws_heldCoreS ⟨[(0, .tree 3 ((mkL mkCore ctCore xs k).map cCore)), (1, .int .i64 k), (5, .int .i64 0)], []⟩ = some (Ex.exit 0, (⟨[(1, .int .i64 (k + (tot ctCore xs : Nat)))], []⟩ : St)) := by
    refine loop_list xs (fun i (m : Int) => m = k + (tot ctCore (xs.take i) : Nat)) (fun i m => ⟨[(0, .tree 3 ((mkL mkCore ctCore xs k).map cCore)), (1, .int .i64 m), (5, .int .i64 ((i : Nat) : Int))], []⟩) (fun rest a => some (Ex.exit 0, (⟨[(1, .int .i64 (k + (tot ctCore xs : Nat)))], []⟩ : St))) ?_ ?_ k (by simp [tot])
    · rintro m rfl
      rw [loopV_by B0_laws_heldCoreS.eq_1]
      simp only [EG, EL, ↓reduceIte, Nat.reduceEqDiff, Nat.reduceAdd, Nat.reduceSub, Nat.reduceMul, Nat.reduceLeDiff, Nat.reduceLT, Int.reduceLT, Int.reduceLE, Int.reduceEq, Int.reduceToNat, reduceCtorEq, int_lt_irrefl, hML, tot_take_end]
    · rintro i h x rest m rfl rfl hm ih
      have hi : (i : Int) < (xs.length : Int) := by omega
      have ht := tot_take_le (f := ctCore) h
      have hs := tot_take1 (f := ctCore) h
      have hc : ctCore xs[i] = tot ct1 xs[i].Regs + 1 + 1 := rfl
      have hg : ((mkL mkCore ctCore xs k).map cCore).getD i [] = cCore (mkCore xs[i] m) := by
        have h' : i < (mkL mkCore ctCore xs k).length := by omega
        rw [getRow _ _ h', mkL_get h, hm]
      simp only [cCore, mkCore] at hg
      rw [loopV_by B0_laws_heldCoreS.eq_1]
      simp (maxSteps := 10000000) (disch := first | assumption | omega) only [EG, EL, ↓reduceIte, Nat.reduceEqDiff, Nat.reduceAdd, Nat.reduceSub, Nat.reduceMul, Nat.reduceLeDiff, Nat.reduceLT, Int.reduceLT, Int.reduceLE, Int.reduceEq, Int.reduceToNat, reduceCtorEq, FB, FT, hi, hML, hg, cx_laws_heldCoreS, cl_laws_heldIntS, sem_laws_heldIntS, wrapI]
      repeat rw [if_neg (by omega)]
      rw [show ((i : Nat) : Int) + 1 = ((i + 1 : Nat) : Int) by omega]
      exact ih _ (by omega)
  rw [sg_laws_heldCoreS, sem_go]
  simp (maxSteps := 10000000) (disch := first | assumption | omega) only [F_laws_heldCoreS, params, EG, EL, ↓reduceIte, Nat.reduceEqDiff, Nat.reduceAdd, Nat.reduceSub, Nat.reduceMul, Nat.reduceLeDiff, Nat.reduceLT, Int.reduceLT, Int.reduceLE, Int.reduceEq, Int.reduceToNat, reduceCtorEq, FB, FT, cx_laws_heldCoreS, cl_laws_heldIntS, sem_laws_heldIntS, loop]
theorem sem_laws_heldBoolS (xs : List Bool) (k : Int) (h1 : 1 ≤ k) (h2 : k + (tot ct1 xs : Nat) ≤ 4611686018427387000) : S_laws_heldBoolS.sem [.tree 1 ((mkL mkB ct1 xs k).map cB), .int .i64 k] = some (.int .i64 (k + (tot ct1 xs : Nat)), []) := by
  have hlen : xs.length ≤ tot ct1 xs := len_ct1
  have hML : (mkL mkB ct1 xs k).length = xs.length := mkL_length
  have loop : loopV X_laws_heldBoolS 0 [0, 1, 5] [(1, [1]), (0, [4])] B0_laws_heldBoolS ⟨[(0, .tree 1 ((mkL mkB ct1 xs k).map cB)), (1, .int .i64 k), (5, .int .i64 0)], []⟩ = some (Ex.exit 0, (⟨[(1, .int .i64 (k + (tot ct1 xs : Nat)))], []⟩ : St)) := by
    refine loop_list xs (fun i (m : Int) => m = k + (tot ct1 (xs.take i) : Nat)) (fun i m => ⟨[(0, .tree 1 ((mkL mkB ct1 xs k).map cB)), (1, .int .i64 m), (5, .int .i64 ((i : Nat) : Int))], []⟩) (fun rest a => some (Ex.exit 0, (⟨[(1, .int .i64 (k + (tot ct1 xs : Nat)))], []⟩ : St))) ?_ ?_ k (by simp [tot])
    · rintro m rfl
      rw [loopV_by B0_laws_heldBoolS.eq_1]
      simp only [EG, EL, ↓reduceIte, Nat.reduceEqDiff, Nat.reduceAdd, Nat.reduceSub, Nat.reduceMul, Nat.reduceLeDiff, Nat.reduceLT, Int.reduceLT, Int.reduceLE, Int.reduceEq, Int.reduceToNat, reduceCtorEq, int_lt_irrefl, hML, tot_take_end]
    · rintro i h x rest m rfl rfl hm ih
      have hi : (i : Int) < (xs.length : Int) := by omega
      have ht := tot_take_le (f := ct1) h
      have hs := tot_take1 (f := ct1) h
      have hc : ct1 xs[i] = 1 := rfl
      have hg : ((mkL mkB ct1 xs k).map cB).getD i [] = cB (mkB xs[i] m) := by
        have h' : i < (mkL mkB ct1 xs k).length := by omega
        rw [getRow _ _ h', mkL_get h, hm]
      simp only [cB, mkB] at hg
      rw [loopV_by B0_laws_heldBoolS.eq_1]
      simp (maxSteps := 10000000) (disch := first | assumption | omega) only [EG, EL, ↓reduceIte, Nat.reduceEqDiff, Nat.reduceAdd, Nat.reduceSub, Nat.reduceMul, Nat.reduceLeDiff, Nat.reduceLT, Int.reduceLT, Int.reduceLE, Int.reduceEq, Int.reduceToNat, reduceCtorEq, FB, FT, hi, hML, hg, cx_laws_heldBoolS, wrapI]
      repeat rw [if_neg (by omega)]
      rw [show ((i : Nat) : Int) + 1 = ((i + 1 : Nat) : Int) by omega]
      exact ih _ (by omega)
  rw [sg_laws_heldBoolS, sem_go]
  simp (maxSteps := 10000000) (disch := first | assumption | omega) only [F_laws_heldBoolS, params, EG, EL, ↓reduceIte, Nat.reduceEqDiff, Nat.reduceAdd, Nat.reduceSub, Nat.reduceMul, Nat.reduceLeDiff, Nat.reduceLT, Int.reduceLT, Int.reduceLE, Int.reduceEq, Int.reduceToNat, reduceCtorEq, FB, FT, cx_laws_heldBoolS, loop]
theorem sem_laws_heldKernel (x : DKernel) (k : Int) (h1 : 1 ≤ k) (h2 : k + (cwKernel x : Nat) ≤ 4611686018427387000) : S_laws_heldKernel.sem [.agg [.tree 3 ((mkL mkGate ctGate x.Gates k).map cGate), .tree 1 ((mkL mkI ct1 x.Ready (k + (tot ctGate x.Gates : Nat))).map cI), .tree 3 ((mkL mkCore ctCore x.Saved ((k + (tot ctGate x.Gates : Nat)) + (tot ct1 x.Ready : Nat))).map cCore), .tree 1 ((mkL mkB ct1 x.Over (((k + (tot ctGate x.Gates : Nat)) + (tot ct1 x.Ready : Nat)) + (tot ctCore x.Saved : Nat))).map cB)], .int .i64 k] = some (.int .i64 ((((k + (tot ctGate x.Gates : Nat)) + (tot ct1 x.Ready : Nat)) + (tot ctCore x.Saved : Nat)) + (tot ct1 x.Over : Nat)), []) := by
  show S_laws_heldKernel.sem [.agg (cKernel (mwKernel x k)), .int .i64 k] = some (.int .i64 ((((k + (tot ctGate x.Gates : Nat)) + (tot ct1 x.Ready : Nat)) + (tot ctCore x.Saved : Nat)) + (tot ct1 x.Over : Nat)), [])
  have hc : cwKernel x = tot ctGate x.Gates + tot ct1 x.Ready + tot ctCore x.Saved + tot ct1 x.Over := rfl
  rw [sg_laws_heldKernel, sem_go]
  simp (maxSteps := 10000000) (disch := first | assumption | omega) only [F_laws_heldKernel, params, EG, EL, ↓reduceIte, Nat.reduceEqDiff, Nat.reduceAdd, Nat.reduceSub, Nat.reduceMul, Nat.reduceLeDiff, Nat.reduceLT, Int.reduceLT, Int.reduceLE, Int.reduceEq, Int.reduceToNat, reduceCtorEq, FB, FT, cx_laws_heldKernel, cl_laws_heldGateS, sem_laws_heldGateS, cl_laws_heldIntS, sem_laws_heldIntS, cl_laws_heldCoreS, sem_laws_heldCoreS, cl_laws_heldBoolS, sem_laws_heldBoolS, mwKernel, mwGate, mwCore]
  repeat rw [if_neg (by omega)]
def coreNew : DCore := ⟨List.replicate 8 0, 0, -1⟩
def holdK (x : DKernel) (c : DCore) : DKernel := if 0 ≤ c.Process ∧ c.Process ≤ (x.Saved.length : Int) - 1 then { x with Saved := x.Saved.set c.Process.toNat c } else x
def wakeK (x : DKernel) (p : Int) : DKernel := if (0 ≤ p ∧ p ≤ (x.Saved.length : Int) - 1) ∧ p ∉ x.Ready then { x with Ready := x.Ready ++ [p] } else x
def pickK (x : DKernel) : DKernel × DCore × Bool := match x.Ready with | [] => (x, coreNew, false) | r :: rs => if 0 ≤ r ∧ r ≤ (x.Saved.length : Int) - 1 then ({ x with Ready := rs }, x.Saved.getD r.toNat coreNew, true) else (x, coreNew, false)
theorem sem_spec_CoreNew : S_spec_CoreNew.sem [] = some (.agg (cCore coreNew), []) := by
  rw [sg_spec_CoreNew, sem_go]
  simp (maxSteps := 10000000) (disch := first | assumption | omega) only [F_spec_CoreNew, params, EG, EL, ↓reduceIte, Nat.reduceEqDiff, Nat.reduceAdd, Nat.reduceSub, Nat.reduceMul, Nat.reduceLeDiff, Nat.reduceLT, Int.reduceLT, Int.reduceLE, Int.reduceEq, Int.reduceToNat, reduceCtorEq, FB, ED, cx_spec_CoreNew]
  first | rfl | decide
theorem sem_impl_CoreNew : S_impl_CoreNew.sem [] = some (.agg (cCore coreNew), []) := by
  rw [sg_impl_CoreNew, sem_go]
  simp (maxSteps := 10000000) (disch := first | assumption | omega) only [F_impl_CoreNew, params, EG, EL, ↓reduceIte, Nat.reduceEqDiff, Nat.reduceAdd, Nat.reduceSub, Nat.reduceMul, Nat.reduceLeDiff, Nat.reduceLT, Int.reduceLT, Int.reduceLE, Int.reduceEq, Int.reduceToNat, reduceCtorEq, FB, ED, cx_impl_CoreNew]
  first | rfl | decide
def gateNew (n : Int) : DGate := ⟨-1, [], if 0 < n then (if 1 < n then [-1, -1] else [-1]) else []⟩
theorem wrap_one : IntKind.wrap .i64 (0 + 1) = 1 := by decide
theorem wrap_two : IntKind.wrap .i64 (1 + 1) = 2 := by decide
theorem min2_0 {n : Int} : (0 < (if 2 < n then 2 else n)) = (0 < n) := by split <;> simp <;> omega
theorem min2_1 {n : Int} : (1 < (if 2 < n then 2 else n)) = (1 < n) := by split <;> simp <;> omega
theorem min2_2 {n : Int} : (2 < (if 2 < n then 2 else n)) = False := by split <;> simp <;> omega
theorem sem_spec_GateNew (n : Int) : S_spec_GateNew.sem [.int .i64 n] = some (.agg (cGate (gateNew n)), []) := by
  rw [sg_spec_GateNew, sem_go]
  by_cases h0 : 0 < n <;> by_cases h1 : 1 < n
  all_goals first | (exfalso; omega) | skip
  all_goals simp (maxSteps := 10000000) (disch := first | assumption | omega) only [F_spec_GateNew, params, EG, EL, ↓reduceIte, Nat.reduceEqDiff, Nat.reduceAdd, Nat.reduceSub, Nat.reduceMul, Nat.reduceLeDiff, Nat.reduceLT, Int.reduceLT, Int.reduceLE, Int.reduceEq, Int.reduceToNat, reduceCtorEq, FB, ED, FT, cx_spec_GateNew, gateNew, h0, h1, wrap_one, wrap_two, min2_0, min2_1, min2_2]
  all_goals rw [loopV_by B0_spec_GateNew.eq_1]
  all_goals simp (maxSteps := 10000000) (disch := first | assumption | omega) only [EG, EL, ↓reduceIte, Nat.reduceEqDiff, Nat.reduceAdd, Nat.reduceSub, Nat.reduceMul, Nat.reduceLeDiff, Nat.reduceLT, Int.reduceLT, Int.reduceLE, Int.reduceEq, Int.reduceToNat, reduceCtorEq, FB, ED, FT, cx_spec_GateNew, gateNew, h0, h1, wrap_one, wrap_two, min2_0, min2_1, min2_2]
  all_goals first | rfl | skip
  all_goals rw [loopV_by B0_spec_GateNew.eq_1]
  all_goals simp (maxSteps := 10000000) (disch := first | assumption | omega) only [EG, EL, ↓reduceIte, Nat.reduceEqDiff, Nat.reduceAdd, Nat.reduceSub, Nat.reduceMul, Nat.reduceLeDiff, Nat.reduceLT, Int.reduceLT, Int.reduceLE, Int.reduceEq, Int.reduceToNat, reduceCtorEq, FB, ED, FT, cx_spec_GateNew, gateNew, h0, h1, wrap_one, wrap_two, min2_0, min2_1, min2_2]
  all_goals first | rfl | skip
  all_goals rw [loopV_by B0_spec_GateNew.eq_1]
  all_goals by_cases h2 : 2 < n
  all_goals simp (maxSteps := 10000000) (disch := first | assumption | omega) only [EG, EL, ↓reduceIte, Nat.reduceEqDiff, Nat.reduceAdd, Nat.reduceSub, Nat.reduceMul, Nat.reduceLeDiff, Nat.reduceLT, Int.reduceLT, Int.reduceLE, Int.reduceEq, Int.reduceToNat, reduceCtorEq, FB, ED, FT, cx_spec_GateNew, gateNew, h0, h1, h2, wrap_one, wrap_two, min2_0, min2_1, min2_2]
  all_goals first | rfl | skip
theorem sem_impl_GateNew (n : Int) : S_impl_GateNew.sem [.int .i64 n] = some (.agg (cGate (gateNew n)), []) := by
  rw [sg_impl_GateNew, sem_go]
  by_cases h0 : 0 < n <;> by_cases h1 : 1 < n
  all_goals first | (exfalso; omega) | skip
  all_goals simp (maxSteps := 10000000) (disch := first | assumption | omega) only [F_impl_GateNew, params, EG, EL, ↓reduceIte, Nat.reduceEqDiff, Nat.reduceAdd, Nat.reduceSub, Nat.reduceMul, Nat.reduceLeDiff, Nat.reduceLT, Int.reduceLT, Int.reduceLE, Int.reduceEq, Int.reduceToNat, reduceCtorEq, FB, ED, FT, cx_impl_GateNew, gateNew, h0, h1, wrap_one, wrap_two, min2_0, min2_1, min2_2]
  all_goals rw [loopV_by B0_impl_GateNew.eq_1]
  all_goals simp (maxSteps := 10000000) (disch := first | assumption | omega) only [EG, EL, ↓reduceIte, Nat.reduceEqDiff, Nat.reduceAdd, Nat.reduceSub, Nat.reduceMul, Nat.reduceLeDiff, Nat.reduceLT, Int.reduceLT, Int.reduceLE, Int.reduceEq, Int.reduceToNat, reduceCtorEq, FB, ED, FT, cx_impl_GateNew, gateNew, h0, h1, wrap_one, wrap_two, min2_0, min2_1, min2_2]
  all_goals first | rfl | skip
  all_goals rw [loopV_by B0_impl_GateNew.eq_1]
  all_goals simp (maxSteps := 10000000) (disch := first | assumption | omega) only [EG, EL, ↓reduceIte, Nat.reduceEqDiff, Nat.reduceAdd, Nat.reduceSub, Nat.reduceMul, Nat.reduceLeDiff, Nat.reduceLT, Int.reduceLT, Int.reduceLE, Int.reduceEq, Int.reduceToNat, reduceCtorEq, FB, ED, FT, cx_impl_GateNew, gateNew, h0, h1, wrap_one, wrap_two, min2_0, min2_1, min2_2]
  all_goals first | rfl | skip
  all_goals rw [loopV_by B0_impl_GateNew.eq_1]
  all_goals by_cases h2 : 2 < n
  all_goals simp (maxSteps := 10000000) (disch := first | assumption | omega) only [EG, EL, ↓reduceIte, Nat.reduceEqDiff, Nat.reduceAdd, Nat.reduceSub, Nat.reduceMul, Nat.reduceLeDiff, Nat.reduceLT, Int.reduceLT, Int.reduceLE, Int.reduceEq, Int.reduceToNat, reduceCtorEq, FB, ED, FT, cx_impl_GateNew, gateNew, h0, h1, h2, wrap_one, wrap_two, min2_0, min2_1, min2_2]
  all_goals first | rfl | skip
def procCore (x : DImage) (i : Nat) : DCore := ⟨List.replicate 8 0, if h : i < x.Starts.length then x.Starts[i] else 0, i⟩
def coresF (x : DImage) : List DProcess → Nat → List DCore
  | [], _ => []
  | _ :: r, i => procCore x i :: coresF x r (i + 1)
def readyF : List DProcess → Nat → List Int
  | [], _ => []
  | _ :: r, i => (i : Int) :: readyF r (i + 1)
def overF : List DProcess → List Bool
  | [] => []
  | _ :: r => false :: overF r
def monG (m : DMonitor) : DGate := gateNew m.Queues.length
def kernelNew (p : DProgram) (x : DImage) : DKernel := ⟨p.Monitors.map monG, readyF p.Processes 0, coresF x p.Processes 0, overF p.Processes⟩
theorem sem_spec_KernelNew (p : DProgram) (x : DImage) (hm : p.Monitors.length ≤ 1048576) (hp : p.Processes.length ≤ 1048576) : S_spec_KernelNew.sem [.agg (cProgram p), .agg (cImage x)] = some (.agg (cKernel (kernelNew p x)), []) := by
  have loop0 : loopV X_spec_KernelNew 0 [2, 3, 4, 5, 6] [(1, [2, 3, 4, 5])] B0_spec_KernelNew ⟨[(2, .ptr ⟨0, none, 0⟩ 3 0 0), (3, .ptr ⟨1, none, 0⟩ 3 0 0), (4, .ptr ⟨2, none, 0⟩ 4 0 0), (5, .ptr ⟨7, none, 0⟩ 4 0 0), (6, .int .i64 0)], [some ⟨true, 0, 3, [cProgram p]⟩, some ⟨true, 0, 3, [cImage x]⟩, some ⟨true, 0, 4, [[.sl ⟨3, none, 0⟩ 3 0 0, .sl ⟨4, none, 0⟩ 1 0 0, .sl ⟨5, none, 0⟩ 3 0 0, .sl ⟨6, none, 0⟩ 1 0 0]]⟩, some ⟨false, 0, 3, []⟩, some ⟨false, 0, 1, []⟩, some ⟨false, 0, 3, []⟩, some ⟨false, 0, 1, []⟩, some ⟨true, 0, 4, [[.sl ⟨8, none, 0⟩ 3 0 ([] : List DGate).length, .sl ⟨9, none, 0⟩ 1 0 ([] : List Int).length, .sl ⟨10, none, 0⟩ 3 0 ([] : List DCore).length, .sl ⟨11, none, 0⟩ 1 0 ([] : List Bool).length]]⟩, some ⟨false, 0, 3, ([] : List DGate).map cGate⟩, some ⟨false, 0, 1, ([] : List Int).map cI⟩, some ⟨false, 0, 3, ([] : List DCore).map cCore⟩, some ⟨false, 0, 1, ([] : List Bool).map cB⟩]⟩ = some (.exit 0, ⟨[(2, .ptr ⟨0, none, 0⟩ 3 0 0), (3, .ptr ⟨1, none, 0⟩ 3 0 0), (4, .ptr ⟨2, none, 0⟩ 4 0 0), (5, .ptr ⟨7, none, 0⟩ 4 0 0)], [some ⟨true, 0, 3, [cProgram p]⟩, some ⟨true, 0, 3, [cImage x]⟩, some ⟨true, 0, 4, [[.sl ⟨3, none, 0⟩ 3 0 0, .sl ⟨4, none, 0⟩ 1 0 0, .sl ⟨5, none, 0⟩ 3 0 0, .sl ⟨6, none, 0⟩ 1 0 0]]⟩, some ⟨false, 0, 3, []⟩, some ⟨false, 0, 1, []⟩, some ⟨false, 0, 3, []⟩, some ⟨false, 0, 1, []⟩, some ⟨true, 0, 4, [[.sl ⟨8, none, 0⟩ 3 0 (p.Monitors.map monG).length, .sl ⟨9, none, 0⟩ 1 0 ([] : List Int).length, .sl ⟨10, none, 0⟩ 3 0 ([] : List DCore).length, .sl ⟨11, none, 0⟩ 1 0 ([] : List Bool).length]]⟩, some ⟨false, 0, 3, (p.Monitors.map monG).map cGate⟩, some ⟨false, 0, 1, ([] : List Int).map cI⟩, some ⟨false, 0, 3, ([] : List DCore).map cCore⟩, some ⟨false, 0, 1, ([] : List Bool).map cB⟩]⟩) := by
    refine loop_list p.Monitors (fun i (gs : List DGate) => gs.length = i) (fun i gs => ⟨[(2, .ptr ⟨0, none, 0⟩ 3 0 0), (3, .ptr ⟨1, none, 0⟩ 3 0 0), (4, .ptr ⟨2, none, 0⟩ 4 0 0), (5, .ptr ⟨7, none, 0⟩ 4 0 0), (6, .int .i64 ((i : Nat) : Int))], [some ⟨true, 0, 3, [cProgram p]⟩, some ⟨true, 0, 3, [cImage x]⟩, some ⟨true, 0, 4, [[.sl ⟨3, none, 0⟩ 3 0 0, .sl ⟨4, none, 0⟩ 1 0 0, .sl ⟨5, none, 0⟩ 3 0 0, .sl ⟨6, none, 0⟩ 1 0 0]]⟩, some ⟨false, 0, 3, []⟩, some ⟨false, 0, 1, []⟩, some ⟨false, 0, 3, []⟩, some ⟨false, 0, 1, []⟩, some ⟨true, 0, 4, [[.sl ⟨8, none, 0⟩ 3 0 gs.length, .sl ⟨9, none, 0⟩ 1 0 ([] : List Int).length, .sl ⟨10, none, 0⟩ 3 0 ([] : List DCore).length, .sl ⟨11, none, 0⟩ 1 0 ([] : List Bool).length]]⟩, some ⟨false, 0, 3, gs.map cGate⟩, some ⟨false, 0, 1, ([] : List Int).map cI⟩, some ⟨false, 0, 3, ([] : List DCore).map cCore⟩, some ⟨false, 0, 1, ([] : List Bool).map cB⟩]⟩) (fun rest gs => some (.exit 0, ⟨[(2, .ptr ⟨0, none, 0⟩ 3 0 0), (3, .ptr ⟨1, none, 0⟩ 3 0 0), (4, .ptr ⟨2, none, 0⟩ 4 0 0), (5, .ptr ⟨7, none, 0⟩ 4 0 0)], [some ⟨true, 0, 3, [cProgram p]⟩, some ⟨true, 0, 3, [cImage x]⟩, some ⟨true, 0, 4, [[.sl ⟨3, none, 0⟩ 3 0 0, .sl ⟨4, none, 0⟩ 1 0 0, .sl ⟨5, none, 0⟩ 3 0 0, .sl ⟨6, none, 0⟩ 1 0 0]]⟩, some ⟨false, 0, 3, []⟩, some ⟨false, 0, 1, []⟩, some ⟨false, 0, 3, []⟩, some ⟨false, 0, 1, []⟩, some ⟨true, 0, 4, [[.sl ⟨8, none, 0⟩ 3 0 (gs ++ rest.map monG).length, .sl ⟨9, none, 0⟩ 1 0 ([] : List Int).length, .sl ⟨10, none, 0⟩ 3 0 ([] : List DCore).length, .sl ⟨11, none, 0⟩ 1 0 ([] : List Bool).length]]⟩, some ⟨false, 0, 3, (gs ++ rest.map monG).map cGate⟩, some ⟨false, 0, 1, ([] : List Int).map cI⟩, some ⟨false, 0, 3, ([] : List DCore).map cCore⟩, some ⟨false, 0, 1, ([] : List Bool).map cB⟩]⟩)) ?_ ?_ [] rfl
    · rintro gs hl
      rw [loopV_by B0_spec_KernelNew.eq_1]
      simp only [EG, EL, ↓reduceIte, Nat.reduceEqDiff, Nat.reduceAdd, Nat.reduceSub, Nat.reduceMul, Nat.reduceLeDiff, Nat.reduceLT, Int.reduceLT, Int.reduceLE, Int.reduceEq, Int.reduceToNat, reduceCtorEq, FB, int_lt_irrefl, List.append_nil]
    · rintro i hi0 y rest gs rfl rfl hl ih
      have hi : (i : Int) < (p.Monitors.length : Int) := by omega
      have hc : (gs.length + 1) * 56 ≤ 70368744177664 := by omega
      have i1 := ih (gs ++ [monG p.Monitors[i]]) (by simp; omega)
      have hg := sem_spec_GateNew (p.Monitors[i].Queues.length : Int)
      have hgm : gateNew (p.Monitors[i].Queues.length : Int) = monG p.Monitors[i] := rfl
      rw [hgm] at hg
      try simp only [cProgram, cImage, EG, EL, ↓reduceIte, Nat.reduceEqDiff, Nat.reduceAdd, Nat.reduceSub, Nat.reduceMul, Nat.reduceLeDiff, Nat.reduceLT, Int.reduceLT, Int.reduceLE, Int.reduceEq, Int.reduceToNat, reduceCtorEq, FB, List.append_assoc] at i1
      rw [loopV_by B0_spec_KernelNew.eq_1]
      simp (maxSteps := 10000000) (disch := first | assumption | omega) only [cProgram, cImage, EG, EL, ↓reduceIte, Nat.reduceEqDiff, Nat.reduceAdd, Nat.reduceSub, Nat.reduceMul, Nat.reduceLeDiff, Nat.reduceLT, Int.reduceLT, Int.reduceLE, Int.reduceEq, Int.reduceToNat, reduceCtorEq, FB, ED, FT, hi, wrap_succ, getRow _ _ hi0, hc, cx_spec_KernelNew, cl_spec_GateNew, hg]
      try simp only [EG, EL, ↓reduceIte, Nat.reduceEqDiff, Nat.reduceAdd, Nat.reduceSub, Nat.reduceMul, Nat.reduceLeDiff, Nat.reduceLT, Int.reduceLT, Int.reduceLE, Int.reduceEq, Int.reduceToNat, reduceCtorEq, FB, List.append_assoc]
      exact i1
  have loop1 : ∀ gs : List DGate, loopV X_spec_KernelNew 0 [2, 3, 4, 5, 7] [(3, [4, 5])] B1_spec_KernelNew ⟨[(2, .ptr ⟨0, none, 0⟩ 3 0 0), (3, .ptr ⟨1, none, 0⟩ 3 0 0), (4, .ptr ⟨2, none, 0⟩ 4 0 0), (5, .ptr ⟨7, none, 0⟩ 4 0 0), (7, .int .i64 0)], [some ⟨true, 0, 3, [cProgram p]⟩, some ⟨true, 0, 3, [cImage x]⟩, some ⟨true, 0, 4, [[.sl ⟨3, none, 0⟩ 3 0 0, .sl ⟨4, none, 0⟩ 1 0 0, .sl ⟨5, none, 0⟩ 3 0 0, .sl ⟨6, none, 0⟩ 1 0 0]]⟩, some ⟨false, 0, 3, []⟩, some ⟨false, 0, 1, []⟩, some ⟨false, 0, 3, []⟩, some ⟨false, 0, 1, []⟩, some ⟨true, 0, 4, [[.sl ⟨8, none, 0⟩ 3 0 gs.length, .sl ⟨9, none, 0⟩ 1 0 ([] : List Int).length, .sl ⟨10, none, 0⟩ 3 0 ([] : List DCore).length, .sl ⟨11, none, 0⟩ 1 0 ([] : List Bool).length]]⟩, some ⟨false, 0, 3, gs.map cGate⟩, some ⟨false, 0, 1, ([] : List Int).map cI⟩, some ⟨false, 0, 3, ([] : List DCore).map cCore⟩, some ⟨false, 0, 1, ([] : List Bool).map cB⟩]⟩ = some (.exit 2, ⟨[(4, .ptr ⟨0, none, 0⟩ 4 0 0), (5, .ptr ⟨5, none, 0⟩ 4 0 0)], [some ⟨true, 0, 4, [[.sl ⟨1, none, 0⟩ 3 0 0, .sl ⟨2, none, 0⟩ 1 0 0, .sl ⟨3, none, 0⟩ 3 0 0, .sl ⟨4, none, 0⟩ 1 0 0]]⟩, some ⟨false, 0, 3, []⟩, some ⟨false, 0, 1, []⟩, some ⟨false, 0, 3, []⟩, some ⟨false, 0, 1, []⟩, some ⟨true, 0, 4, [[.sl ⟨6, none, 0⟩ 3 0 gs.length, .sl ⟨7, none, 0⟩ 1 0 (readyF p.Processes 0).length, .sl ⟨8, none, 0⟩ 3 0 (coresF x p.Processes 0).length, .sl ⟨9, none, 0⟩ 1 0 (overF p.Processes).length]]⟩, some ⟨false, 0, 3, gs.map cGate⟩, some ⟨false, 0, 1, (readyF p.Processes 0).map cI⟩, some ⟨false, 0, 3, (coresF x p.Processes 0).map cCore⟩, some ⟨false, 0, 1, (overF p.Processes).map cB⟩]⟩) := by
    intro gs
    refine loop_list p.Processes (fun i (a : List Int × List DCore × List Bool) => a.1.length = i ∧ a.2.1.length = i ∧ a.2.2.length = i) (fun i a => ⟨[(2, .ptr ⟨0, none, 0⟩ 3 0 0), (3, .ptr ⟨1, none, 0⟩ 3 0 0), (4, .ptr ⟨2, none, 0⟩ 4 0 0), (5, .ptr ⟨7, none, 0⟩ 4 0 0), (7, .int .i64 ((i : Nat) : Int))], [some ⟨true, 0, 3, [cProgram p]⟩, some ⟨true, 0, 3, [cImage x]⟩, some ⟨true, 0, 4, [[.sl ⟨3, none, 0⟩ 3 0 0, .sl ⟨4, none, 0⟩ 1 0 0, .sl ⟨5, none, 0⟩ 3 0 0, .sl ⟨6, none, 0⟩ 1 0 0]]⟩, some ⟨false, 0, 3, []⟩, some ⟨false, 0, 1, []⟩, some ⟨false, 0, 3, []⟩, some ⟨false, 0, 1, []⟩, some ⟨true, 0, 4, [[.sl ⟨8, none, 0⟩ 3 0 gs.length, .sl ⟨9, none, 0⟩ 1 0 a.1.length, .sl ⟨10, none, 0⟩ 3 0 a.2.1.length, .sl ⟨11, none, 0⟩ 1 0 a.2.2.length]]⟩, some ⟨false, 0, 3, gs.map cGate⟩, some ⟨false, 0, 1, a.1.map cI⟩, some ⟨false, 0, 3, a.2.1.map cCore⟩, some ⟨false, 0, 1, a.2.2.map cB⟩]⟩) (fun rest a => some (.exit 2, ⟨[(4, .ptr ⟨0, none, 0⟩ 4 0 0), (5, .ptr ⟨5, none, 0⟩ 4 0 0)], [some ⟨true, 0, 4, [[.sl ⟨1, none, 0⟩ 3 0 0, .sl ⟨2, none, 0⟩ 1 0 0, .sl ⟨3, none, 0⟩ 3 0 0, .sl ⟨4, none, 0⟩ 1 0 0]]⟩, some ⟨false, 0, 3, []⟩, some ⟨false, 0, 1, []⟩, some ⟨false, 0, 3, []⟩, some ⟨false, 0, 1, []⟩, some ⟨true, 0, 4, [[.sl ⟨6, none, 0⟩ 3 0 gs.length, .sl ⟨7, none, 0⟩ 1 0 (a.1 ++ readyF rest a.1.length).length, .sl ⟨8, none, 0⟩ 3 0 (a.2.1 ++ coresF x rest a.1.length).length, .sl ⟨9, none, 0⟩ 1 0 (a.2.2 ++ overF rest).length]]⟩, some ⟨false, 0, 3, gs.map cGate⟩, some ⟨false, 0, 1, (a.1 ++ readyF rest a.1.length).map cI⟩, some ⟨false, 0, 3, (a.2.1 ++ coresF x rest a.1.length).map cCore⟩, some ⟨false, 0, 1, (a.2.2 ++ overF rest).map cB⟩]⟩)) ?_ ?_ ([], [], []) ⟨rfl, rfl, rfl⟩
    · rintro ⟨rs, cs, os⟩ hl
      rw [loopV_by B1_spec_KernelNew.eq_1]
      simp only [EG, EL, ↓reduceIte, Nat.reduceEqDiff, Nat.reduceAdd, Nat.reduceSub, Nat.reduceMul, Nat.reduceLeDiff, Nat.reduceLT, Int.reduceLT, Int.reduceLE, Int.reduceEq, Int.reduceToNat, reduceCtorEq, FB, int_lt_irrefl, coresF, readyF, overF, List.append_nil]
    · rintro i hi0 y rest ⟨rs, cs, os⟩ rfl rfl ⟨hl1, hl2, hl3⟩ ih
      simp only at hl1 hl2 hl3
      subst hl1
      have hi : ((rs.length : Nat) : Int) < (p.Processes.length : Int) := by omega
      have hc1 : (rs.length + 1) * 8 ≤ 70368744177664 := by omega
      have hc2 : (cs.length + 1) * 40 ≤ 70368744177664 := by omega
      have hc3 : (os.length + 1) * 1 ≤ 70368744177664 := by omega
      have i1 := ih (rs ++ [((rs.length : Nat) : Int)], cs ++ [procCore x rs.length], os ++ [false]) (by simp; omega)
      simp only [List.length_append, List.length_singleton] at i1
      have hnew := sem_spec_CoreNew
      simp only [cCore, coreNew] at hnew
      generalize hL : (List.replicate 8 0 : List Int) = L at hnew
      by_cases hs : rs.length < x.Starts.length
      · have hs' : ((rs.length : Nat) : Int) < (x.Starts.length : Int) := by omega
        have hpc : procCore x rs.length = ⟨L, x.Starts[rs.length], rs.length⟩ := by simp [procCore, hs, hL]
        rw [hpc] at i1
        simp only [cProgram, cImage, EG, EL, ↓reduceIte, Nat.reduceEqDiff, Nat.reduceAdd, Nat.reduceSub, Nat.reduceMul, Nat.reduceLeDiff, Nat.reduceLT, Int.reduceLT, Int.reduceLE, Int.reduceEq, Int.reduceToNat, reduceCtorEq, FB, List.length_append, List.length_cons, List.length_nil, List.map_append, List.map_cons, List.map_nil, cCore, cI, cB, List.cons_append, List.nil_append, List.append_assoc, coresF, readyF, overF, hpc, Nat.add_assoc, Nat.add_comm 1] at i1
        rw [loopV_by B1_spec_KernelNew.eq_1]
        simp (maxSteps := 10000000) (disch := first | assumption | omega) only [cProgram, cImage, EG, EL, ↓reduceIte, Nat.reduceEqDiff, Nat.reduceAdd, Nat.reduceSub, Nat.reduceMul, Nat.reduceLeDiff, Nat.reduceLT, Int.reduceLT, Int.reduceLE, Int.reduceEq, Int.reduceToNat, reduceCtorEq, FB, ED, FT, hi, hs', wrap_succ, getRow _ _ hs, hc1, hc2, hc3, cx_spec_KernelNew, cl_spec_CoreNew, hnew]
        try simp only [EG, EL, ↓reduceIte, Nat.reduceEqDiff, Nat.reduceAdd, Nat.reduceSub, Nat.reduceMul, Nat.reduceLeDiff, Nat.reduceLT, Int.reduceLT, Int.reduceLE, Int.reduceEq, Int.reduceToNat, reduceCtorEq, FB, List.length_append, List.length_cons, List.length_nil, List.map_append, List.map_cons, List.map_nil, cCore, cI, cB, List.cons_append, List.nil_append, List.append_assoc, coresF, readyF, overF, hpc, Nat.add_assoc, Nat.add_comm 1]
        exact i1
      · have hs' : ¬ ((rs.length : Nat) : Int) < (x.Starts.length : Int) := by omega
        have hpc : procCore x rs.length = ⟨L, 0, rs.length⟩ := by simp [procCore, hs, hL]
        rw [hpc] at i1
        simp only [cProgram, cImage, EG, EL, ↓reduceIte, Nat.reduceEqDiff, Nat.reduceAdd, Nat.reduceSub, Nat.reduceMul, Nat.reduceLeDiff, Nat.reduceLT, Int.reduceLT, Int.reduceLE, Int.reduceEq, Int.reduceToNat, reduceCtorEq, FB, List.length_append, List.length_cons, List.length_nil, List.map_append, List.map_cons, List.map_nil, cCore, cI, cB, List.cons_append, List.nil_append, List.append_assoc, coresF, readyF, overF, hpc, Nat.add_assoc, Nat.add_comm 1] at i1
        rw [loopV_by B1_spec_KernelNew.eq_1]
        simp (maxSteps := 10000000) (disch := first | assumption | omega) only [cProgram, cImage, EG, EL, ↓reduceIte, Nat.reduceEqDiff, Nat.reduceAdd, Nat.reduceSub, Nat.reduceMul, Nat.reduceLeDiff, Nat.reduceLT, Int.reduceLT, Int.reduceLE, Int.reduceEq, Int.reduceToNat, reduceCtorEq, FB, ED, FT, hi, hs', wrap_succ, hc1, hc2, hc3, cx_spec_KernelNew, cl_spec_CoreNew, hnew]
        try simp only [EG, EL, ↓reduceIte, Nat.reduceEqDiff, Nat.reduceAdd, Nat.reduceSub, Nat.reduceMul, Nat.reduceLeDiff, Nat.reduceLT, Int.reduceLT, Int.reduceLE, Int.reduceEq, Int.reduceToNat, reduceCtorEq, FB, List.length_append, List.length_cons, List.length_nil, List.map_append, List.map_cons, List.map_nil, cCore, cI, cB, List.cons_append, List.nil_append, List.append_assoc, coresF, readyF, overF, hpc, Nat.add_assoc, Nat.add_comm 1]
        exact i1
  try simp only [cProgram, cImage, EG, EL, ↓reduceIte, Nat.reduceEqDiff, Nat.reduceAdd, Nat.reduceSub, Nat.reduceMul, Nat.reduceLeDiff, Nat.reduceLT, Int.reduceLT, Int.reduceLE, Int.reduceEq, Int.reduceToNat, reduceCtorEq, FB] at loop0
  have l1 := loop1 (p.Monitors.map monG)
  try simp only [cProgram, cImage, EG, EL, ↓reduceIte, Nat.reduceEqDiff, Nat.reduceAdd, Nat.reduceSub, Nat.reduceMul, Nat.reduceLeDiff, Nat.reduceLT, Int.reduceLT, Int.reduceLE, Int.reduceEq, Int.reduceToNat, reduceCtorEq, FB, List.length_map] at l1
  have hk : kernelNew p x = ⟨p.Monitors.map monG, readyF p.Processes 0, coresF x p.Processes 0, overF p.Processes⟩ := rfl
  rw [sg_spec_KernelNew, sem_go, hk]
  simp (maxSteps := 10000000) (disch := first | assumption | omega) only [F_spec_KernelNew, params, EG, EL, ↓reduceIte, Nat.reduceEqDiff, Nat.reduceAdd, Nat.reduceSub, Nat.reduceMul, Nat.reduceLeDiff, Nat.reduceLT, Int.reduceLT, Int.reduceLE, Int.reduceEq, Int.reduceToNat, reduceCtorEq, FB, ED, FT, cx_spec_KernelNew, loop0, l1]
theorem sem_impl_KernelNew (p : DProgram) (x : DImage) (hm : p.Monitors.length ≤ 1048576) (hp : p.Processes.length ≤ 1048576) : S_impl_KernelNew.sem [.agg (cProgram p), .agg (cImage x)] = some (.agg (cKernel (kernelNew p x)), []) := by
  have loop0 : loopV X_impl_KernelNew 0 [2, 3, 4, 5, 11, 12, 13] [(1, [2, 3, 4, 5])] B0_impl_KernelNew ⟨[(2, .ptr ⟨0, none, 0⟩ 3 0 0), (3, .ptr ⟨1, none, 0⟩ 3 0 0), (4, .ptr ⟨2, none, 0⟩ 4 0 0), (5, .ptr ⟨7, none, 0⟩ 4 0 0), (11, .tree 4 (p.Monitors.map cMonitor)), (12, .int .i64 p.Monitors.length), (13, .int .i64 0)], [some ⟨true, 0, 3, [cProgram p]⟩, some ⟨true, 0, 3, [cImage x]⟩, some ⟨true, 0, 4, [[.sl ⟨3, none, 0⟩ 3 0 0, .sl ⟨4, none, 0⟩ 1 0 0, .sl ⟨5, none, 0⟩ 3 0 0, .sl ⟨6, none, 0⟩ 1 0 0]]⟩, some ⟨false, 0, 3, []⟩, some ⟨false, 0, 1, []⟩, some ⟨false, 0, 3, []⟩, some ⟨false, 0, 1, []⟩, some ⟨true, 0, 4, [[.sl ⟨8, none, 0⟩ 3 0 ([] : List DGate).length, .sl ⟨9, none, 0⟩ 1 0 ([] : List Int).length, .sl ⟨10, none, 0⟩ 3 0 ([] : List DCore).length, .sl ⟨11, none, 0⟩ 1 0 ([] : List Bool).length]]⟩, some ⟨false, 0, 3, ([] : List DGate).map cGate⟩, some ⟨false, 0, 1, ([] : List Int).map cI⟩, some ⟨false, 0, 3, ([] : List DCore).map cCore⟩, some ⟨false, 0, 1, ([] : List Bool).map cB⟩]⟩ = some (.exit 0, ⟨[(2, .ptr ⟨0, none, 0⟩ 3 0 0), (3, .ptr ⟨1, none, 0⟩ 3 0 0), (4, .ptr ⟨2, none, 0⟩ 4 0 0), (5, .ptr ⟨7, none, 0⟩ 4 0 0)], [some ⟨true, 0, 3, [cProgram p]⟩, some ⟨true, 0, 3, [cImage x]⟩, some ⟨true, 0, 4, [[.sl ⟨3, none, 0⟩ 3 0 0, .sl ⟨4, none, 0⟩ 1 0 0, .sl ⟨5, none, 0⟩ 3 0 0, .sl ⟨6, none, 0⟩ 1 0 0]]⟩, some ⟨false, 0, 3, []⟩, some ⟨false, 0, 1, []⟩, some ⟨false, 0, 3, []⟩, some ⟨false, 0, 1, []⟩, some ⟨true, 0, 4, [[.sl ⟨8, none, 0⟩ 3 0 (p.Monitors.map monG).length, .sl ⟨9, none, 0⟩ 1 0 ([] : List Int).length, .sl ⟨10, none, 0⟩ 3 0 ([] : List DCore).length, .sl ⟨11, none, 0⟩ 1 0 ([] : List Bool).length]]⟩, some ⟨false, 0, 3, (p.Monitors.map monG).map cGate⟩, some ⟨false, 0, 1, ([] : List Int).map cI⟩, some ⟨false, 0, 3, ([] : List DCore).map cCore⟩, some ⟨false, 0, 1, ([] : List Bool).map cB⟩]⟩) := by
    refine loop_list p.Monitors (fun i (gs : List DGate) => gs.length = i) (fun i gs => ⟨[(2, .ptr ⟨0, none, 0⟩ 3 0 0), (3, .ptr ⟨1, none, 0⟩ 3 0 0), (4, .ptr ⟨2, none, 0⟩ 4 0 0), (5, .ptr ⟨7, none, 0⟩ 4 0 0), (11, .tree 4 (p.Monitors.map cMonitor)), (12, .int .i64 p.Monitors.length), (13, .int .i64 ((i : Nat) : Int))], [some ⟨true, 0, 3, [cProgram p]⟩, some ⟨true, 0, 3, [cImage x]⟩, some ⟨true, 0, 4, [[.sl ⟨3, none, 0⟩ 3 0 0, .sl ⟨4, none, 0⟩ 1 0 0, .sl ⟨5, none, 0⟩ 3 0 0, .sl ⟨6, none, 0⟩ 1 0 0]]⟩, some ⟨false, 0, 3, []⟩, some ⟨false, 0, 1, []⟩, some ⟨false, 0, 3, []⟩, some ⟨false, 0, 1, []⟩, some ⟨true, 0, 4, [[.sl ⟨8, none, 0⟩ 3 0 gs.length, .sl ⟨9, none, 0⟩ 1 0 ([] : List Int).length, .sl ⟨10, none, 0⟩ 3 0 ([] : List DCore).length, .sl ⟨11, none, 0⟩ 1 0 ([] : List Bool).length]]⟩, some ⟨false, 0, 3, gs.map cGate⟩, some ⟨false, 0, 1, ([] : List Int).map cI⟩, some ⟨false, 0, 3, ([] : List DCore).map cCore⟩, some ⟨false, 0, 1, ([] : List Bool).map cB⟩]⟩) (fun rest gs => some (.exit 0, ⟨[(2, .ptr ⟨0, none, 0⟩ 3 0 0), (3, .ptr ⟨1, none, 0⟩ 3 0 0), (4, .ptr ⟨2, none, 0⟩ 4 0 0), (5, .ptr ⟨7, none, 0⟩ 4 0 0)], [some ⟨true, 0, 3, [cProgram p]⟩, some ⟨true, 0, 3, [cImage x]⟩, some ⟨true, 0, 4, [[.sl ⟨3, none, 0⟩ 3 0 0, .sl ⟨4, none, 0⟩ 1 0 0, .sl ⟨5, none, 0⟩ 3 0 0, .sl ⟨6, none, 0⟩ 1 0 0]]⟩, some ⟨false, 0, 3, []⟩, some ⟨false, 0, 1, []⟩, some ⟨false, 0, 3, []⟩, some ⟨false, 0, 1, []⟩, some ⟨true, 0, 4, [[.sl ⟨8, none, 0⟩ 3 0 (gs ++ rest.map monG).length, .sl ⟨9, none, 0⟩ 1 0 ([] : List Int).length, .sl ⟨10, none, 0⟩ 3 0 ([] : List DCore).length, .sl ⟨11, none, 0⟩ 1 0 ([] : List Bool).length]]⟩, some ⟨false, 0, 3, (gs ++ rest.map monG).map cGate⟩, some ⟨false, 0, 1, ([] : List Int).map cI⟩, some ⟨false, 0, 3, ([] : List DCore).map cCore⟩, some ⟨false, 0, 1, ([] : List Bool).map cB⟩]⟩)) ?_ ?_ [] rfl
    · rintro gs hl
      rw [loopV_by B0_impl_KernelNew.eq_1]
      simp only [EG, EL, ↓reduceIte, Nat.reduceEqDiff, Nat.reduceAdd, Nat.reduceSub, Nat.reduceMul, Nat.reduceLeDiff, Nat.reduceLT, Int.reduceLT, Int.reduceLE, Int.reduceEq, Int.reduceToNat, reduceCtorEq, FB, int_lt_irrefl, List.append_nil]
    · rintro i hi0 y rest gs rfl rfl hl ih
      have hi : (i : Int) < (p.Monitors.length : Int) := by omega
      have hc : (gs.length + 1) * 56 ≤ 70368744177664 := by omega
      have i1 := ih (gs ++ [monG p.Monitors[i]]) (by simp; omega)
      have hg := sem_impl_GateNew (p.Monitors[i].Queues.length : Int)
      have hgm : gateNew (p.Monitors[i].Queues.length : Int) = monG p.Monitors[i] := rfl
      rw [hgm] at hg
      try simp only [cProgram, cImage, EG, EL, ↓reduceIte, Nat.reduceEqDiff, Nat.reduceAdd, Nat.reduceSub, Nat.reduceMul, Nat.reduceLeDiff, Nat.reduceLT, Int.reduceLT, Int.reduceLE, Int.reduceEq, Int.reduceToNat, reduceCtorEq, FB, List.append_assoc] at i1
      rw [loopV_by B0_impl_KernelNew.eq_1]
      simp (maxSteps := 10000000) (disch := first | assumption | omega) only [cProgram, cImage, EG, EL, ↓reduceIte, Nat.reduceEqDiff, Nat.reduceAdd, Nat.reduceSub, Nat.reduceMul, Nat.reduceLeDiff, Nat.reduceLT, Int.reduceLT, Int.reduceLE, Int.reduceEq, Int.reduceToNat, reduceCtorEq, FB, ED, FT, hi, wrap_succ, getRow _ _ hi0, hc, cx_impl_KernelNew, cl_impl_GateNew, hg]
      try simp only [EG, EL, ↓reduceIte, Nat.reduceEqDiff, Nat.reduceAdd, Nat.reduceSub, Nat.reduceMul, Nat.reduceLeDiff, Nat.reduceLT, Int.reduceLT, Int.reduceLE, Int.reduceEq, Int.reduceToNat, reduceCtorEq, FB, List.append_assoc]
      exact i1
  have loop1 : ∀ gs : List DGate, loopV X_impl_KernelNew 0 [3, 4, 5, 29, 30] [(3, [4, 5])] B1_impl_KernelNew ⟨[(3, .ptr ⟨0, none, 0⟩ 3 0 0), (4, .ptr ⟨1, none, 0⟩ 4 0 0), (5, .ptr ⟨6, none, 0⟩ 4 0 0), (29, .int .i64 p.Processes.length), (30, .int .i64 0)], [some ⟨true, 0, 3, [cImage x]⟩, some ⟨true, 0, 4, [[.sl ⟨2, none, 0⟩ 3 0 0, .sl ⟨3, none, 0⟩ 1 0 0, .sl ⟨4, none, 0⟩ 3 0 0, .sl ⟨5, none, 0⟩ 1 0 0]]⟩, some ⟨false, 0, 3, []⟩, some ⟨false, 0, 1, []⟩, some ⟨false, 0, 3, []⟩, some ⟨false, 0, 1, []⟩, some ⟨true, 0, 4, [[.sl ⟨7, none, 0⟩ 3 0 gs.length, .sl ⟨8, none, 0⟩ 1 0 ([] : List Int).length, .sl ⟨9, none, 0⟩ 3 0 ([] : List DCore).length, .sl ⟨10, none, 0⟩ 1 0 ([] : List Bool).length]]⟩, some ⟨false, 0, 3, gs.map cGate⟩, some ⟨false, 0, 1, ([] : List Int).map cI⟩, some ⟨false, 0, 3, ([] : List DCore).map cCore⟩, some ⟨false, 0, 1, ([] : List Bool).map cB⟩]⟩ = some (.exit 2, ⟨[(4, .ptr ⟨0, none, 0⟩ 4 0 0), (5, .ptr ⟨5, none, 0⟩ 4 0 0)], [some ⟨true, 0, 4, [[.sl ⟨1, none, 0⟩ 3 0 0, .sl ⟨2, none, 0⟩ 1 0 0, .sl ⟨3, none, 0⟩ 3 0 0, .sl ⟨4, none, 0⟩ 1 0 0]]⟩, some ⟨false, 0, 3, []⟩, some ⟨false, 0, 1, []⟩, some ⟨false, 0, 3, []⟩, some ⟨false, 0, 1, []⟩, some ⟨true, 0, 4, [[.sl ⟨6, none, 0⟩ 3 0 gs.length, .sl ⟨7, none, 0⟩ 1 0 (readyF p.Processes 0).length, .sl ⟨8, none, 0⟩ 3 0 (coresF x p.Processes 0).length, .sl ⟨9, none, 0⟩ 1 0 (overF p.Processes).length]]⟩, some ⟨false, 0, 3, gs.map cGate⟩, some ⟨false, 0, 1, (readyF p.Processes 0).map cI⟩, some ⟨false, 0, 3, (coresF x p.Processes 0).map cCore⟩, some ⟨false, 0, 1, (overF p.Processes).map cB⟩]⟩) := by
    intro gs
    refine loop_list p.Processes (fun i (a : List Int × List DCore × List Bool) => a.1.length = i ∧ a.2.1.length = i ∧ a.2.2.length = i) (fun i a => ⟨[(3, .ptr ⟨0, none, 0⟩ 3 0 0), (4, .ptr ⟨1, none, 0⟩ 4 0 0), (5, .ptr ⟨6, none, 0⟩ 4 0 0), (29, .int .i64 p.Processes.length), (30, .int .i64 ((i : Nat) : Int))], [some ⟨true, 0, 3, [cImage x]⟩, some ⟨true, 0, 4, [[.sl ⟨2, none, 0⟩ 3 0 0, .sl ⟨3, none, 0⟩ 1 0 0, .sl ⟨4, none, 0⟩ 3 0 0, .sl ⟨5, none, 0⟩ 1 0 0]]⟩, some ⟨false, 0, 3, []⟩, some ⟨false, 0, 1, []⟩, some ⟨false, 0, 3, []⟩, some ⟨false, 0, 1, []⟩, some ⟨true, 0, 4, [[.sl ⟨7, none, 0⟩ 3 0 gs.length, .sl ⟨8, none, 0⟩ 1 0 a.1.length, .sl ⟨9, none, 0⟩ 3 0 a.2.1.length, .sl ⟨10, none, 0⟩ 1 0 a.2.2.length]]⟩, some ⟨false, 0, 3, gs.map cGate⟩, some ⟨false, 0, 1, a.1.map cI⟩, some ⟨false, 0, 3, a.2.1.map cCore⟩, some ⟨false, 0, 1, a.2.2.map cB⟩]⟩) (fun rest a => some (.exit 2, ⟨[(4, .ptr ⟨0, none, 0⟩ 4 0 0), (5, .ptr ⟨5, none, 0⟩ 4 0 0)], [some ⟨true, 0, 4, [[.sl ⟨1, none, 0⟩ 3 0 0, .sl ⟨2, none, 0⟩ 1 0 0, .sl ⟨3, none, 0⟩ 3 0 0, .sl ⟨4, none, 0⟩ 1 0 0]]⟩, some ⟨false, 0, 3, []⟩, some ⟨false, 0, 1, []⟩, some ⟨false, 0, 3, []⟩, some ⟨false, 0, 1, []⟩, some ⟨true, 0, 4, [[.sl ⟨6, none, 0⟩ 3 0 gs.length, .sl ⟨7, none, 0⟩ 1 0 (a.1 ++ readyF rest a.1.length).length, .sl ⟨8, none, 0⟩ 3 0 (a.2.1 ++ coresF x rest a.1.length).length, .sl ⟨9, none, 0⟩ 1 0 (a.2.2 ++ overF rest).length]]⟩, some ⟨false, 0, 3, gs.map cGate⟩, some ⟨false, 0, 1, (a.1 ++ readyF rest a.1.length).map cI⟩, some ⟨false, 0, 3, (a.2.1 ++ coresF x rest a.1.length).map cCore⟩, some ⟨false, 0, 1, (a.2.2 ++ overF rest).map cB⟩]⟩)) ?_ ?_ ([], [], []) ⟨rfl, rfl, rfl⟩
    · rintro ⟨rs, cs, os⟩ hl
      rw [loopV_by B1_impl_KernelNew.eq_1]
      simp only [EG, EL, ↓reduceIte, Nat.reduceEqDiff, Nat.reduceAdd, Nat.reduceSub, Nat.reduceMul, Nat.reduceLeDiff, Nat.reduceLT, Int.reduceLT, Int.reduceLE, Int.reduceEq, Int.reduceToNat, reduceCtorEq, FB, int_lt_irrefl, coresF, readyF, overF, List.append_nil]
    · rintro i hi0 y rest ⟨rs, cs, os⟩ rfl rfl ⟨hl1, hl2, hl3⟩ ih
      simp only at hl1 hl2 hl3
      subst hl1
      have hi : ((rs.length : Nat) : Int) < (p.Processes.length : Int) := by omega
      have hc1 : (rs.length + 1) * 8 ≤ 70368744177664 := by omega
      have hc2 : (cs.length + 1) * 40 ≤ 70368744177664 := by omega
      have hc3 : (os.length + 1) * 1 ≤ 70368744177664 := by omega
      have i1 := ih (rs ++ [((rs.length : Nat) : Int)], cs ++ [procCore x rs.length], os ++ [false]) (by simp; omega)
      simp only [List.length_append, List.length_singleton] at i1
      have hnew := sem_impl_CoreNew
      simp only [cCore, coreNew] at hnew
      generalize hL : (List.replicate 8 0 : List Int) = L at hnew
      by_cases hs : rs.length < x.Starts.length
      · have hs' : ((rs.length : Nat) : Int) < (x.Starts.length : Int) := by omega
        have hpc : procCore x rs.length = ⟨L, x.Starts[rs.length], rs.length⟩ := by simp [procCore, hs, hL]
        rw [hpc] at i1
        simp only [cProgram, cImage, EG, EL, ↓reduceIte, Nat.reduceEqDiff, Nat.reduceAdd, Nat.reduceSub, Nat.reduceMul, Nat.reduceLeDiff, Nat.reduceLT, Int.reduceLT, Int.reduceLE, Int.reduceEq, Int.reduceToNat, reduceCtorEq, FB, List.length_append, List.length_cons, List.length_nil, List.map_append, List.map_cons, List.map_nil, cCore, cI, cB, List.cons_append, List.nil_append, List.append_assoc, coresF, readyF, overF, hpc, Nat.add_assoc, Nat.add_comm 1] at i1
        rw [loopV_by B1_impl_KernelNew.eq_1]
        simp (maxSteps := 10000000) (disch := first | assumption | omega) only [cProgram, cImage, EG, EL, ↓reduceIte, Nat.reduceEqDiff, Nat.reduceAdd, Nat.reduceSub, Nat.reduceMul, Nat.reduceLeDiff, Nat.reduceLT, Int.reduceLT, Int.reduceLE, Int.reduceEq, Int.reduceToNat, reduceCtorEq, FB, ED, FT, hi, hs', wrap_succ, getRow _ _ hs, hc1, hc2, hc3, cx_impl_KernelNew, cl_impl_CoreNew, hnew]
        try simp only [EG, EL, ↓reduceIte, Nat.reduceEqDiff, Nat.reduceAdd, Nat.reduceSub, Nat.reduceMul, Nat.reduceLeDiff, Nat.reduceLT, Int.reduceLT, Int.reduceLE, Int.reduceEq, Int.reduceToNat, reduceCtorEq, FB, List.length_append, List.length_cons, List.length_nil, List.map_append, List.map_cons, List.map_nil, cCore, cI, cB, List.cons_append, List.nil_append, List.append_assoc, coresF, readyF, overF, hpc, Nat.add_assoc, Nat.add_comm 1]
        exact i1
      · have hs' : ¬ ((rs.length : Nat) : Int) < (x.Starts.length : Int) := by omega
        have hpc : procCore x rs.length = ⟨L, 0, rs.length⟩ := by simp [procCore, hs, hL]
        rw [hpc] at i1
        simp only [cProgram, cImage, EG, EL, ↓reduceIte, Nat.reduceEqDiff, Nat.reduceAdd, Nat.reduceSub, Nat.reduceMul, Nat.reduceLeDiff, Nat.reduceLT, Int.reduceLT, Int.reduceLE, Int.reduceEq, Int.reduceToNat, reduceCtorEq, FB, List.length_append, List.length_cons, List.length_nil, List.map_append, List.map_cons, List.map_nil, cCore, cI, cB, List.cons_append, List.nil_append, List.append_assoc, coresF, readyF, overF, hpc, Nat.add_assoc, Nat.add_comm 1] at i1
        rw [loopV_by B1_impl_KernelNew.eq_1]
        simp (maxSteps := 10000000) (disch := first | assumption | omega) only [cProgram, cImage, EG, EL, ↓reduceIte, Nat.reduceEqDiff, Nat.reduceAdd, Nat.reduceSub, Nat.reduceMul, Nat.reduceLeDiff, Nat.reduceLT, Int.reduceLT, Int.reduceLE, Int.reduceEq, Int.reduceToNat, reduceCtorEq, FB, ED, FT, hi, hs', wrap_succ, hc1, hc2, hc3, cx_impl_KernelNew, cl_impl_CoreNew, hnew]
        try simp only [EG, EL, ↓reduceIte, Nat.reduceEqDiff, Nat.reduceAdd, Nat.reduceSub, Nat.reduceMul, Nat.reduceLeDiff, Nat.reduceLT, Int.reduceLT, Int.reduceLE, Int.reduceEq, Int.reduceToNat, reduceCtorEq, FB, List.length_append, List.length_cons, List.length_nil, List.map_append, List.map_cons, List.map_nil, cCore, cI, cB, List.cons_append, List.nil_append, List.append_assoc, coresF, readyF, overF, hpc, Nat.add_assoc, Nat.add_comm 1]
        exact i1
  try simp only [cProgram, cImage, EG, EL, ↓reduceIte, Nat.reduceEqDiff, Nat.reduceAdd, Nat.reduceSub, Nat.reduceMul, Nat.reduceLeDiff, Nat.reduceLT, Int.reduceLT, Int.reduceLE, Int.reduceEq, Int.reduceToNat, reduceCtorEq, FB] at loop0
  have l1 := loop1 (p.Monitors.map monG)
  try simp only [cProgram, cImage, EG, EL, ↓reduceIte, Nat.reduceEqDiff, Nat.reduceAdd, Nat.reduceSub, Nat.reduceMul, Nat.reduceLeDiff, Nat.reduceLT, Int.reduceLT, Int.reduceLE, Int.reduceEq, Int.reduceToNat, reduceCtorEq, FB, List.length_map] at l1
  have hk : kernelNew p x = ⟨p.Monitors.map monG, readyF p.Processes 0, coresF x p.Processes 0, overF p.Processes⟩ := rfl
  rw [sg_impl_KernelNew, sem_go, hk]
  simp (maxSteps := 10000000) (disch := first | assumption | omega) only [F_impl_KernelNew, params, EG, EL, ↓reduceIte, Nat.reduceEqDiff, Nat.reduceAdd, Nat.reduceSub, Nat.reduceMul, Nat.reduceLeDiff, Nat.reduceLT, Int.reduceLT, Int.reduceLE, Int.reduceEq, Int.reduceToNat, reduceCtorEq, FB, ED, FT, cx_impl_KernelNew, loop0, l1]
theorem gateNew_len {n : Int} : (gateNew n).Waits.length + (gateNew n).Queues.length ≤ 2 := by
  unfold gateNew; split <;> (try split) <;> simp
theorem tot_monG : ∀ {ms : List DMonitor}, tot wtGate (ms.map monG) ≤ 2 * ms.length
  | [] => Nat.le_refl _
  | m :: ms => by
    have := @tot_monG ms
    have h := @gateNew_len (m.Queues.length : Int)
    simp only [List.map_cons, tot, List.length_cons, monG, wtGate] at *
    omega
theorem coresF_tot {x : DImage} : ∀ {ps : List DProcess} {i : Nat}, tot wtCore (coresF x ps i) = 8 * ps.length ∧ (coresF x ps i).length = ps.length ∧ (readyF ps i).length = ps.length ∧ (overF ps).length = ps.length
  | [], _ => ⟨rfl, rfl, rfl, rfl⟩
  | p :: ps, i => by
    obtain ⟨a, b, c, d⟩ := @coresF_tot x ps (i + 1)
    simp only [coresF, readyF, overF, tot, List.length_cons, wtCore, procCore, List.length_replicate] at *
    omega
set_option maxHeartbeats 4000000 in
theorem law_FnExactKernelNew (p : DProgram) (g_p : gdProgram p) (x : DImage) (g_x : gdImage x) : tru F_laws_FnExactKernelNew.res (go X_laws_FnExactKernelNew 0 [.c F_laws_FnExactKernelNew.body] ⟨params 0 [.agg (cProgram p), .agg (cImage x)], []⟩) := by
  rcases lft_or (1048576) (wtProgram p) with ⟨e0, f0⟩ | ⟨e0, f0⟩
  · simp (maxSteps := 10000000) (disch := first | assumption | omega) only [F_laws_FnExactKernelNew, params, EG, EL, ↓reduceIte, Nat.reduceEqDiff, Nat.reduceAdd, Nat.reduceSub, Nat.reduceMul, Nat.reduceLeDiff, Nat.reduceLT, Int.reduceLT, Int.reduceLE, Int.reduceEq, Int.reduceToNat, reduceCtorEq, ED, FB, FT, tru_ret, tru_ite, cx_laws_FnExactKernelNew, e0, neg1_lt, cl_laws_szProgram, sem_laws_szProgram, cl_laws_szImage, sem_laws_szImage, cl_laws_toProgram, sem_laws_toProgram, cl_laws_toImage, sem_laws_toImage, cl_spec_KernelNew, sem_spec_KernelNew, cl_impl_KernelNew, sem_impl_KernelNew, cl_laws_eqKernel, sem_laws_eqKernel, cl_laws_eqProgram, sem_laws_eqProgram, cl_laws_eqImage, sem_laws_eqImage, cl_laws_markProgram, run_goF, F_laws_markProgram, cx_laws_markProgram, cl_laws_markNodeS, sem_laws_markNodeS, cl_laws_markMonitorS, sem_laws_markMonitorS, cl_laws_markProcessS, sem_laws_markProcessS, cl_laws_markImage, F_laws_markImage, cx_laws_markImage, cl_laws_markIntS, sem_laws_markIntS, cl_laws_markKernel, F_laws_markKernel, cx_laws_markKernel, cl_laws_markGateS, sem_laws_markGateS, cl_laws_markCoreS, sem_laws_markCoreS, cl_laws_markBoolS, sem_laws_markBoolS, cl_laws_heldKernel, sem_laws_heldKernel]
  have c0 : ¬ 1048576 - ((wtProgram p : Nat) : Int) < 0 := by omega
  have w0 := f0
  simp only [wtProgram] at w0
  have q0_0 := tctle_Node p.Nodes
  have q0_1 := tctle_Monitor p.Monitors
  have q0_2 := tctle_Process p.Processes
  rcases lft_or (1048576 - ((wtProgram p : Nat) : Int)) (wtImage x) with ⟨e1, f1⟩ | ⟨e1, f1⟩
  · simp (maxSteps := 10000000) (disch := first | assumption | omega) only [F_laws_FnExactKernelNew, params, EG, EL, ↓reduceIte, Nat.reduceEqDiff, Nat.reduceAdd, Nat.reduceSub, Nat.reduceMul, Nat.reduceLeDiff, Nat.reduceLT, Int.reduceLT, Int.reduceLE, Int.reduceEq, Int.reduceToNat, reduceCtorEq, ED, FB, FT, tru_ret, tru_ite, cx_laws_FnExactKernelNew, e0, c0, e1, neg1_lt, cl_laws_szProgram, sem_laws_szProgram, cl_laws_szImage, sem_laws_szImage, cl_laws_toProgram, sem_laws_toProgram, cl_laws_toImage, sem_laws_toImage, cl_spec_KernelNew, sem_spec_KernelNew, cl_impl_KernelNew, sem_impl_KernelNew, cl_laws_eqKernel, sem_laws_eqKernel, cl_laws_eqProgram, sem_laws_eqProgram, cl_laws_eqImage, sem_laws_eqImage, cl_laws_markProgram, run_goF, F_laws_markProgram, cx_laws_markProgram, cl_laws_markNodeS, sem_laws_markNodeS, cl_laws_markMonitorS, sem_laws_markMonitorS, cl_laws_markProcessS, sem_laws_markProcessS, cl_laws_markImage, F_laws_markImage, cx_laws_markImage, cl_laws_markIntS, sem_laws_markIntS, cl_laws_markKernel, F_laws_markKernel, cx_laws_markKernel, cl_laws_markGateS, sem_laws_markGateS, cl_laws_markCoreS, sem_laws_markCoreS, cl_laws_markBoolS, sem_laws_markBoolS, cl_laws_heldKernel, sem_laws_heldKernel]
  have c1 : ¬ 1048576 - ((wtProgram p : Nat) : Int) - ((wtImage x : Nat) : Int) < 0 := by omega
  have w1 := f1
  simp only [wtImage] at w1
  have q1_0 := tot_ct1 x.Text
  have q1_1 := tot_ct1 x.Starts
  have hr0 : wtKernel (kernelNew p x) ≤ 1073741824 := by
    have a := @tot_monG p.Monitors
    obtain ⟨b, c, d, e⟩ := @coresF_tot x p.Processes 0
    simp only [wtKernel, kernelNew, List.length_map]
    omega
  have hu0 := hr0
  simp only [wtKernel] at hu0
  have r0_0 := tctle_Gate (kernelNew p x).Gates
  have r0_1 := tot_ct1 (kernelNew p x).Ready
  have r0_2 := tctle_Core (kernelNew p x).Saved
  have r0_3 := tot_ct1 (kernelNew p x).Over
  have rc0 : cwKernel (kernelNew p x) = tot ctGate (kernelNew p x).Gates + tot ct1 (kernelNew p x).Ready + tot ctCore (kernelNew p x).Saved + tot ct1 (kernelNew p x).Over := rfl
  simp (maxSteps := 10000000) (disch := first | assumption | omega) only [F_laws_FnExactKernelNew, params, EG, EL, ↓reduceIte, Nat.reduceEqDiff, Nat.reduceAdd, Nat.reduceSub, Nat.reduceMul, Nat.reduceLeDiff, Nat.reduceLT, Int.reduceLT, Int.reduceLE, Int.reduceEq, Int.reduceToNat, reduceCtorEq, ED, FB, FT, tru_ret, tru_ite, cx_laws_FnExactKernelNew, e0, c0, e1, c1, cl_laws_szProgram, sem_laws_szProgram, cl_laws_szImage, sem_laws_szImage, cl_laws_toProgram, sem_laws_toProgram, cl_laws_toImage, sem_laws_toImage, cl_spec_KernelNew, sem_spec_KernelNew, cl_impl_KernelNew, sem_impl_KernelNew, cl_laws_eqKernel, sem_laws_eqKernel, cl_laws_eqProgram, sem_laws_eqProgram, cl_laws_eqImage, sem_laws_eqImage, cl_laws_markProgram, run_goF, F_laws_markProgram, cx_laws_markProgram, cl_laws_markNodeS, sem_laws_markNodeS, cl_laws_markMonitorS, sem_laws_markMonitorS, cl_laws_markProcessS, sem_laws_markProcessS, cl_laws_markImage, F_laws_markImage, cx_laws_markImage, cl_laws_markIntS, sem_laws_markIntS, cl_laws_markKernel, F_laws_markKernel, cx_laws_markKernel, cl_laws_markGateS, sem_laws_markGateS, cl_laws_markCoreS, sem_laws_markCoreS, cl_laws_markBoolS, sem_laws_markBoolS, cl_laws_heldKernel, sem_laws_heldKernel]
  repeat (first | rw [if_neg (by omega)] | rw [if_pos (by omega)])
  try trivial

end Go.Proofs.Ytfecgljlnfoheaa.AI
