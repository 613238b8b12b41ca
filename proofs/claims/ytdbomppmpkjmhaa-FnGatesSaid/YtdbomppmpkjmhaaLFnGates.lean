/- What these functions give, and that the law FnGates gives true. -/
import Derived.Test.YtdbomppmpkjmhaaCFnGates
namespace Go.Proofs.Ytdbomppmpkjmhaa.AI
open Go.Proofs
set_option linter.all false
set_option maxRecDepth 100000
structure DNode where
  Kind : Int
  Num : Int
  Name : ByteArray
  More : ByteArray
  To : ByteArray
  Kids : List (Int)
abbrev cNode (x : DNode) : List AV := [.int .i64 x.Kind, .int .i64 x.Num, .str x.Name, .str x.More, .str x.To, .tree 1 (x.Kids.map cI)]
def wtNode (x : DNode) : Nat := x.Name.size + x.More.size + x.To.size + x.Kids.length
def gdNode (x : DNode) : Prop := i64 x.Kind ∧ i64 x.Num ∧ gdS x.Name ∧ gdS x.More ∧ gdS x.To ∧ (x.Kids.length ≤ 140737488351232 ∧ ∀ y ∈ x.Kids, i64 y)
def mkNode (x : DNode) (k : Int) : DNode := { Kind := k, Num := (k + 1), Name := (mT ((k + 1) + 1)), More := (mT (((k + 1) + 1) + 1)), To := (mT ((((k + 1) + 1) + 1) + 1)), Kids := mkL mkI ct1 x.Kids (((((k + 1) + 1) + 1) + 1) + 1) }
def ctNode (x : DNode) : Nat := 1 + 1 + 1 + 1 + 1 + tot ct1 x.Kids
theorem ctle_Node (x : DNode) : ctNode x ≤ 5 * (1 + wtNode x) := by
  have h0 := tot_ct1 x.Kids
  unfold ctNode
  simp only [wtNode] at *
  omega
theorem tctle_Node (xs : List DNode) : tot ctNode xs ≤ 5 * (xs.length + tot wtNode xs) := tot_ct_le ctle_Node xs
def mwNode (x : DNode) (k : Int) : DNode := { Kind := x.Kind, Num := x.Num, Name := x.Name, More := x.More, To := x.To, Kids := mkL mkI ct1 x.Kids k }
def cwNode (x : DNode) : Nat := tot ct1 x.Kids
theorem set_cNode {xs : List DNode} {n : Nat} {x : DNode} : (xs.map cNode).set n [.int .i64 x.Kind, .int .i64 x.Num, .str x.Name, .str x.More, .str x.To, .tree 1 (x.Kids.map cI)] = (xs.set n x).map cNode := by rw [List.map_set]
theorem snoc_cNode {xs : List DNode} {x : DNode} : xs.map cNode ++ [[.int .i64 x.Kind, .int .i64 x.Num, .str x.Name, .str x.More, .str x.To, .tree 1 (x.Kids.map cI)]] = (xs ++ [x]).map cNode := by simp
theorem solid_cNode {xs : List DNode} : solid (xs.map cNode) = true := solid_map fun _ => rfl
structure DEntry where
  Name : ByteArray
  Param : ByteArray
  Body : Int
abbrev cEntry (x : DEntry) : List AV := [.str x.Name, .str x.Param, .int .i64 x.Body]
def wtEntry (x : DEntry) : Nat := x.Name.size + x.Param.size
def gdEntry (x : DEntry) : Prop := gdS x.Name ∧ gdS x.Param ∧ i64 x.Body
def mkEntry (x : DEntry) (k : Int) : DEntry := { Name := (mT k), Param := (mT (k + 1)), Body := ((k + 1) + 1) }
def ctEntry (x : DEntry) : Nat := 1 + 1 + 1
theorem ctle_Entry (x : DEntry) : ctEntry x ≤ 3 * (1 + wtEntry x) := by
  unfold ctEntry
  simp only [wtEntry] at *
  omega
theorem tctle_Entry (xs : List DEntry) : tot ctEntry xs ≤ 3 * (xs.length + tot wtEntry xs) := tot_ct_le ctle_Entry xs
theorem flat_cEntry {xs : List DEntry} : flat (xs.map cEntry) = true := flat_map fun _ => rfl
theorem set_cEntry {xs : List DEntry} {n : Nat} {x : DEntry} : (xs.map cEntry).set n [.str x.Name, .str x.Param, .int .i64 x.Body] = (xs.set n x).map cEntry := by rw [List.map_set]
theorem snoc_cEntry {xs : List DEntry} {x : DEntry} : xs.map cEntry ++ [[.str x.Name, .str x.Param, .int .i64 x.Body]] = (xs ++ [x]).map cEntry := by simp
theorem solid_cEntry {xs : List DEntry} : solid (xs.map cEntry) = true := solid_map fun _ => rfl
structure DMonitor where
  Name : ByteArray
  Vars : List (ByteArray)
  Queues : List (ByteArray)
  Entries : List (DEntry)
abbrev cMonitor (x : DMonitor) : List AV := [.str x.Name, .tree 1 (x.Vars.map cS), .tree 1 (x.Queues.map cS), .tree 3 (x.Entries.map cEntry)]
def wtMonitor (x : DMonitor) : Nat := x.Name.size + (x.Vars.length + tot wtS x.Vars) + (x.Queues.length + tot wtS x.Queues) + (x.Entries.length + tot wtEntry x.Entries)
def gdMonitor (x : DMonitor) : Prop := gdS x.Name ∧ (x.Vars.length ≤ 140737488351232 ∧ ∀ y ∈ x.Vars, gdS y) ∧ (x.Queues.length ≤ 140737488351232 ∧ ∀ y ∈ x.Queues, gdS y) ∧ (x.Entries.length ≤ 140737488351232 ∧ ∀ y ∈ x.Entries, gdEntry y)
def mkMonitor (x : DMonitor) (k : Int) : DMonitor := { Name := (mT k), Vars := mkL mkS ct1 x.Vars (k + 1), Queues := mkL mkS ct1 x.Queues ((k + 1) + (tot ct1 x.Vars : Nat)), Entries := mkL mkEntry ctEntry x.Entries (((k + 1) + (tot ct1 x.Vars : Nat)) + (tot ct1 x.Queues : Nat)) }
def ctMonitor (x : DMonitor) : Nat := 1 + tot ct1 x.Vars + tot ct1 x.Queues + tot ctEntry x.Entries
theorem ctle_Monitor (x : DMonitor) : ctMonitor x ≤ 3 * (1 + wtMonitor x) := by
  have h0 := tot_ct1 x.Vars
  have h1 := tot_ct1 x.Queues
  have h2 := tctle_Entry x.Entries
  unfold ctMonitor
  simp only [wtMonitor] at *
  omega
theorem tctle_Monitor (xs : List DMonitor) : tot ctMonitor xs ≤ 3 * (xs.length + tot wtMonitor xs) := tot_ct_le ctle_Monitor xs
def mwMonitor (x : DMonitor) (k : Int) : DMonitor := { Name := x.Name, Vars := mkL mkS ct1 x.Vars k, Queues := mkL mkS ct1 x.Queues (k + (tot ct1 x.Vars : Nat)), Entries := mkL mkEntry ctEntry x.Entries ((k + (tot ct1 x.Vars : Nat)) + (tot ct1 x.Queues : Nat)) }
def cwMonitor (x : DMonitor) : Nat := tot ct1 x.Vars + tot ct1 x.Queues + tot ctEntry x.Entries
theorem set_cMonitor {xs : List DMonitor} {n : Nat} {x : DMonitor} : (xs.map cMonitor).set n [.str x.Name, .tree 1 (x.Vars.map cS), .tree 1 (x.Queues.map cS), .tree 3 (x.Entries.map cEntry)] = (xs.set n x).map cMonitor := by rw [List.map_set]
theorem snoc_cMonitor {xs : List DMonitor} {x : DMonitor} : xs.map cMonitor ++ [[.str x.Name, .tree 1 (x.Vars.map cS), .tree 1 (x.Queues.map cS), .tree 3 (x.Entries.map cEntry)]] = (xs ++ [x]).map cMonitor := by simp
theorem solid_cMonitor {xs : List DMonitor} : solid (xs.map cMonitor) = true := solid_map fun _ => rfl
structure DProcess where
  Name : ByteArray
  Uses : List (ByteArray)
  Vars : List (ByteArray)
  Body : Int
abbrev cProcess (x : DProcess) : List AV := [.str x.Name, .tree 1 (x.Uses.map cS), .tree 1 (x.Vars.map cS), .int .i64 x.Body]
def wtProcess (x : DProcess) : Nat := x.Name.size + (x.Uses.length + tot wtS x.Uses) + (x.Vars.length + tot wtS x.Vars)
def gdProcess (x : DProcess) : Prop := gdS x.Name ∧ (x.Uses.length ≤ 140737488351232 ∧ ∀ y ∈ x.Uses, gdS y) ∧ (x.Vars.length ≤ 140737488351232 ∧ ∀ y ∈ x.Vars, gdS y) ∧ i64 x.Body
def mkProcess (x : DProcess) (k : Int) : DProcess := { Name := (mT k), Uses := mkL mkS ct1 x.Uses (k + 1), Vars := mkL mkS ct1 x.Vars ((k + 1) + (tot ct1 x.Uses : Nat)), Body := (((k + 1) + (tot ct1 x.Uses : Nat)) + (tot ct1 x.Vars : Nat)) }
def ctProcess (x : DProcess) : Nat := 1 + tot ct1 x.Uses + tot ct1 x.Vars + 1
theorem ctle_Process (x : DProcess) : ctProcess x ≤ 2 * (1 + wtProcess x) := by
  have h0 := tot_ct1 x.Uses
  have h1 := tot_ct1 x.Vars
  unfold ctProcess
  simp only [wtProcess] at *
  omega
theorem tctle_Process (xs : List DProcess) : tot ctProcess xs ≤ 2 * (xs.length + tot wtProcess xs) := tot_ct_le ctle_Process xs
def mwProcess (x : DProcess) (k : Int) : DProcess := { Name := x.Name, Uses := mkL mkS ct1 x.Uses k, Vars := mkL mkS ct1 x.Vars (k + (tot ct1 x.Uses : Nat)), Body := x.Body }
def cwProcess (x : DProcess) : Nat := tot ct1 x.Uses + tot ct1 x.Vars
theorem set_cProcess {xs : List DProcess} {n : Nat} {x : DProcess} : (xs.map cProcess).set n [.str x.Name, .tree 1 (x.Uses.map cS), .tree 1 (x.Vars.map cS), .int .i64 x.Body] = (xs.set n x).map cProcess := by rw [List.map_set]
theorem snoc_cProcess {xs : List DProcess} {x : DProcess} : xs.map cProcess ++ [[.str x.Name, .tree 1 (x.Uses.map cS), .tree 1 (x.Vars.map cS), .int .i64 x.Body]] = (xs ++ [x]).map cProcess := by simp
theorem solid_cProcess {xs : List DProcess} : solid (xs.map cProcess) = true := solid_map fun _ => rfl
structure DProgram where
  Nodes : List (DNode)
  Monitors : List (DMonitor)
  Processes : List (DProcess)
abbrev cProgram (x : DProgram) : List AV := [.tree 6 (x.Nodes.map cNode), .tree 4 (x.Monitors.map cMonitor), .tree 4 (x.Processes.map cProcess)]
def wtProgram (x : DProgram) : Nat := (x.Nodes.length + tot wtNode x.Nodes) + (x.Monitors.length + tot wtMonitor x.Monitors) + (x.Processes.length + tot wtProcess x.Processes)
def gdProgram (x : DProgram) : Prop := (x.Nodes.length ≤ 140737488351232 ∧ ∀ y ∈ x.Nodes, gdNode y) ∧ (x.Monitors.length ≤ 140737488351232 ∧ ∀ y ∈ x.Monitors, gdMonitor y) ∧ (x.Processes.length ≤ 140737488351232 ∧ ∀ y ∈ x.Processes, gdProcess y)
def mkProgram (x : DProgram) (k : Int) : DProgram := { Nodes := mkL mkNode ctNode x.Nodes k, Monitors := mkL mkMonitor ctMonitor x.Monitors (k + (tot ctNode x.Nodes : Nat)), Processes := mkL mkProcess ctProcess x.Processes ((k + (tot ctNode x.Nodes : Nat)) + (tot ctMonitor x.Monitors : Nat)) }
def ctProgram (x : DProgram) : Nat := tot ctNode x.Nodes + tot ctMonitor x.Monitors + tot ctProcess x.Processes
theorem ctle_Program (x : DProgram) : ctProgram x ≤ 5 * (1 + wtProgram x) := by
  have h0 := tctle_Node x.Nodes
  have h1 := tctle_Monitor x.Monitors
  have h2 := tctle_Process x.Processes
  unfold ctProgram
  simp only [wtProgram] at *
  omega
theorem tctle_Program (xs : List DProgram) : tot ctProgram xs ≤ 5 * (xs.length + tot wtProgram xs) := tot_ct_le ctle_Program xs
def mwProgram (x : DProgram) (k : Int) : DProgram := { Nodes := mkL mkNode ctNode x.Nodes k, Monitors := mkL mkMonitor ctMonitor x.Monitors (k + (tot ctNode x.Nodes : Nat)), Processes := mkL mkProcess ctProcess x.Processes ((k + (tot ctNode x.Nodes : Nat)) + (tot ctMonitor x.Monitors : Nat)) }
def cwProgram (x : DProgram) : Nat := tot ctNode x.Nodes + tot ctMonitor x.Monitors + tot ctProcess x.Processes
theorem set_cProgram {xs : List DProgram} {n : Nat} {x : DProgram} : (xs.map cProgram).set n [.tree 6 (x.Nodes.map cNode), .tree 4 (x.Monitors.map cMonitor), .tree 4 (x.Processes.map cProcess)] = (xs.set n x).map cProgram := by rw [List.map_set]
theorem snoc_cProgram {xs : List DProgram} {x : DProgram} : xs.map cProgram ++ [[.tree 6 (x.Nodes.map cNode), .tree 4 (x.Monitors.map cMonitor), .tree 4 (x.Processes.map cProcess)]] = (xs ++ [x]).map cProgram := by simp
theorem solid_cProgram {xs : List DProgram} : solid (xs.map cProgram) = true := solid_map fun _ => rfl
structure DGate where
  Owner : Int
  Waits : List (Int)
  Queues : List (Int)
abbrev cGate (x : DGate) : List AV := [.int .i64 x.Owner, .tree 1 (x.Waits.map cI), .tree 1 (x.Queues.map cI)]
def wtGate (x : DGate) : Nat := x.Waits.length + x.Queues.length
def gdGate (x : DGate) : Prop := i64 x.Owner ∧ (x.Waits.length ≤ 140737488351232 ∧ ∀ y ∈ x.Waits, i64 y) ∧ (x.Queues.length ≤ 140737488351232 ∧ ∀ y ∈ x.Queues, i64 y)
def mkGate (x : DGate) (k : Int) : DGate := { Owner := k, Waits := mkL mkI ct1 x.Waits (k + 1), Queues := mkL mkI ct1 x.Queues ((k + 1) + (tot ct1 x.Waits : Nat)) }
def ctGate (x : DGate) : Nat := 1 + tot ct1 x.Waits + tot ct1 x.Queues
theorem ctle_Gate (x : DGate) : ctGate x ≤ 1 * (1 + wtGate x) := by
  have h0 := tot_ct1 x.Waits
  have h1 := tot_ct1 x.Queues
  unfold ctGate
  simp only [wtGate] at *
  omega
theorem tctle_Gate (xs : List DGate) : tot ctGate xs ≤ 1 * (xs.length + tot wtGate xs) := tot_ct_le ctle_Gate xs
def mwGate (x : DGate) (k : Int) : DGate := { Owner := x.Owner, Waits := mkL mkI ct1 x.Waits k, Queues := mkL mkI ct1 x.Queues (k + (tot ct1 x.Waits : Nat)) }
def cwGate (x : DGate) : Nat := tot ct1 x.Waits + tot ct1 x.Queues
theorem set_cGate {xs : List DGate} {n : Nat} {x : DGate} : (xs.map cGate).set n [.int .i64 x.Owner, .tree 1 (x.Waits.map cI), .tree 1 (x.Queues.map cI)] = (xs.set n x).map cGate := by rw [List.map_set]
theorem snoc_cGate {xs : List DGate} {x : DGate} : xs.map cGate ++ [[.int .i64 x.Owner, .tree 1 (x.Waits.map cI), .tree 1 (x.Queues.map cI)]] = (xs ++ [x]).map cGate := by simp
theorem solid_cGate {xs : List DGate} : solid (xs.map cGate) = true := solid_map fun _ => rfl
structure DCore where
  Regs : List (Int)
  Pc : Int
  Process : Int
abbrev cCore (x : DCore) : List AV := [.tree 1 (x.Regs.map cI), .int .i64 x.Pc, .int .i64 x.Process]
def wtCore (x : DCore) : Nat := x.Regs.length
def gdCore (x : DCore) : Prop := (x.Regs.length ≤ 140737488351232 ∧ ∀ y ∈ x.Regs, i64 y) ∧ i64 x.Pc ∧ i64 x.Process
def mkCore (x : DCore) (k : Int) : DCore := { Regs := mkL mkI ct1 x.Regs k, Pc := (k + (tot ct1 x.Regs : Nat)), Process := ((k + (tot ct1 x.Regs : Nat)) + 1) }
def ctCore (x : DCore) : Nat := tot ct1 x.Regs + 1 + 1
theorem ctle_Core (x : DCore) : ctCore x ≤ 2 * (1 + wtCore x) := by
  have h0 := tot_ct1 x.Regs
  unfold ctCore
  simp only [wtCore] at *
  omega
theorem tctle_Core (xs : List DCore) : tot ctCore xs ≤ 2 * (xs.length + tot wtCore xs) := tot_ct_le ctle_Core xs
def mwCore (x : DCore) (k : Int) : DCore := { Regs := mkL mkI ct1 x.Regs k, Pc := x.Pc, Process := x.Process }
def cwCore (x : DCore) : Nat := tot ct1 x.Regs
theorem set_cCore {xs : List DCore} {n : Nat} {x : DCore} : (xs.map cCore).set n [.tree 1 (x.Regs.map cI), .int .i64 x.Pc, .int .i64 x.Process] = (xs.set n x).map cCore := by rw [List.map_set]
theorem snoc_cCore {xs : List DCore} {x : DCore} : xs.map cCore ++ [[.tree 1 (x.Regs.map cI), .int .i64 x.Pc, .int .i64 x.Process]] = (xs ++ [x]).map cCore := by simp
theorem solid_cCore {xs : List DCore} : solid (xs.map cCore) = true := solid_map fun _ => rfl
structure DPlaces where
  Names : List (ByteArray)
  Ats : List (Int)
abbrev cPlaces (x : DPlaces) : List AV := [.tree 1 (x.Names.map cS), .tree 1 (x.Ats.map cI)]
def wtPlaces (x : DPlaces) : Nat := (x.Names.length + tot wtS x.Names) + x.Ats.length
def gdPlaces (x : DPlaces) : Prop := (x.Names.length ≤ 140737488351232 ∧ ∀ y ∈ x.Names, gdS y) ∧ (x.Ats.length ≤ 140737488351232 ∧ ∀ y ∈ x.Ats, i64 y)
def mkPlaces (x : DPlaces) (k : Int) : DPlaces := { Names := mkL mkS ct1 x.Names k, Ats := mkL mkI ct1 x.Ats (k + (tot ct1 x.Names : Nat)) }
def ctPlaces (x : DPlaces) : Nat := tot ct1 x.Names + tot ct1 x.Ats
theorem ctle_Places (x : DPlaces) : ctPlaces x ≤ 1 * (1 + wtPlaces x) := by
  have h0 := tot_ct1 x.Names
  have h1 := tot_ct1 x.Ats
  unfold ctPlaces
  simp only [wtPlaces] at *
  omega
theorem tctle_Places (xs : List DPlaces) : tot ctPlaces xs ≤ 1 * (xs.length + tot wtPlaces xs) := tot_ct_le ctle_Places xs
def mwPlaces (x : DPlaces) (k : Int) : DPlaces := { Names := mkL mkS ct1 x.Names k, Ats := mkL mkI ct1 x.Ats (k + (tot ct1 x.Names : Nat)) }
def cwPlaces (x : DPlaces) : Nat := tot ct1 x.Names + tot ct1 x.Ats
theorem set_cPlaces {xs : List DPlaces} {n : Nat} {x : DPlaces} : (xs.map cPlaces).set n [.tree 1 (x.Names.map cS), .tree 1 (x.Ats.map cI)] = (xs.set n x).map cPlaces := by rw [List.map_set]
theorem snoc_cPlaces {xs : List DPlaces} {x : DPlaces} : xs.map cPlaces ++ [[.tree 1 (x.Names.map cS), .tree 1 (x.Ats.map cI)]] = (xs ++ [x]).map cPlaces := by simp
theorem solid_cPlaces {xs : List DPlaces} : solid (xs.map cPlaces) = true := solid_map fun _ => rfl
structure DImage where
  Text : List (Int)
  Starts : List (Int)
  Size : Int
abbrev cImage (x : DImage) : List AV := [.tree 1 (x.Text.map cI), .tree 1 (x.Starts.map cI), .int .i64 x.Size]
def wtImage (x : DImage) : Nat := x.Text.length + x.Starts.length
def gdImage (x : DImage) : Prop := (x.Text.length ≤ 140737488351232 ∧ ∀ y ∈ x.Text, i64 y) ∧ (x.Starts.length ≤ 140737488351232 ∧ ∀ y ∈ x.Starts, i64 y) ∧ i64 x.Size
def mkImage (x : DImage) (k : Int) : DImage := { Text := mkL mkI ct1 x.Text k, Starts := mkL mkI ct1 x.Starts (k + (tot ct1 x.Text : Nat)), Size := ((k + (tot ct1 x.Text : Nat)) + (tot ct1 x.Starts : Nat)) }
def ctImage (x : DImage) : Nat := tot ct1 x.Text + tot ct1 x.Starts + 1
theorem ctle_Image (x : DImage) : ctImage x ≤ 1 * (1 + wtImage x) := by
  have h0 := tot_ct1 x.Text
  have h1 := tot_ct1 x.Starts
  unfold ctImage
  simp only [wtImage] at *
  omega
theorem tctle_Image (xs : List DImage) : tot ctImage xs ≤ 1 * (xs.length + tot wtImage xs) := tot_ct_le ctle_Image xs
def mwImage (x : DImage) (k : Int) : DImage := { Text := mkL mkI ct1 x.Text k, Starts := mkL mkI ct1 x.Starts (k + (tot ct1 x.Text : Nat)), Size := x.Size }
def cwImage (x : DImage) : Nat := tot ct1 x.Text + tot ct1 x.Starts
theorem set_cImage {xs : List DImage} {n : Nat} {x : DImage} : (xs.map cImage).set n [.tree 1 (x.Text.map cI), .tree 1 (x.Starts.map cI), .int .i64 x.Size] = (xs.set n x).map cImage := by rw [List.map_set]
theorem snoc_cImage {xs : List DImage} {x : DImage} : xs.map cImage ++ [[.tree 1 (x.Text.map cI), .tree 1 (x.Starts.map cI), .int .i64 x.Size]] = (xs ++ [x]).map cImage := by simp
theorem solid_cImage {xs : List DImage} : solid (xs.map cImage) = true := solid_map fun _ => rfl
structure DKernel where
  Gates : List (DGate)
  Ready : List (Int)
  Saved : List (DCore)
  Over : List (Bool)
abbrev cKernel (x : DKernel) : List AV := [.tree 3 (x.Gates.map cGate), .tree 1 (x.Ready.map cI), .tree 3 (x.Saved.map cCore), .tree 1 (x.Over.map cB)]
def wtKernel (x : DKernel) : Nat := (x.Gates.length + tot wtGate x.Gates) + x.Ready.length + (x.Saved.length + tot wtCore x.Saved) + x.Over.length
def gdKernel (x : DKernel) : Prop := (x.Gates.length ≤ 140737488351232 ∧ ∀ y ∈ x.Gates, gdGate y) ∧ (x.Ready.length ≤ 140737488351232 ∧ ∀ y ∈ x.Ready, i64 y) ∧ (x.Saved.length ≤ 140737488351232 ∧ ∀ y ∈ x.Saved, gdCore y) ∧ (x.Over.length ≤ 140737488351232)
def mkKernel (x : DKernel) (k : Int) : DKernel := { Gates := mkL mkGate ctGate x.Gates k, Ready := mkL mkI ct1 x.Ready (k + (tot ctGate x.Gates : Nat)), Saved := mkL mkCore ctCore x.Saved ((k + (tot ctGate x.Gates : Nat)) + (tot ct1 x.Ready : Nat)), Over := mkL mkB ct1 x.Over (((k + (tot ctGate x.Gates : Nat)) + (tot ct1 x.Ready : Nat)) + (tot ctCore x.Saved : Nat)) }
def ctKernel (x : DKernel) : Nat := tot ctGate x.Gates + tot ct1 x.Ready + tot ctCore x.Saved + tot ct1 x.Over
theorem ctle_Kernel (x : DKernel) : ctKernel x ≤ 2 * (1 + wtKernel x) := by
  have h0 := tctle_Gate x.Gates
  have h1 := tot_ct1 x.Ready
  have h2 := tctle_Core x.Saved
  have h3 := tot_ct1 x.Over
  unfold ctKernel
  simp only [wtKernel] at *
  omega
theorem tctle_Kernel (xs : List DKernel) : tot ctKernel xs ≤ 2 * (xs.length + tot wtKernel xs) := tot_ct_le ctle_Kernel xs
def mwKernel (x : DKernel) (k : Int) : DKernel := { Gates := mkL mkGate ctGate x.Gates k, Ready := mkL mkI ct1 x.Ready (k + (tot ctGate x.Gates : Nat)), Saved := mkL mkCore ctCore x.Saved ((k + (tot ctGate x.Gates : Nat)) + (tot ct1 x.Ready : Nat)), Over := mkL mkB ct1 x.Over (((k + (tot ctGate x.Gates : Nat)) + (tot ct1 x.Ready : Nat)) + (tot ctCore x.Saved : Nat)) }
def cwKernel (x : DKernel) : Nat := tot ctGate x.Gates + tot ct1 x.Ready + tot ctCore x.Saved + tot ct1 x.Over
theorem set_cKernel {xs : List DKernel} {n : Nat} {x : DKernel} : (xs.map cKernel).set n [.tree 3 (x.Gates.map cGate), .tree 1 (x.Ready.map cI), .tree 3 (x.Saved.map cCore), .tree 1 (x.Over.map cB)] = (xs.set n x).map cKernel := by rw [List.map_set]
theorem snoc_cKernel {xs : List DKernel} {x : DKernel} : xs.map cKernel ++ [[.tree 3 (x.Gates.map cGate), .tree 1 (x.Ready.map cI), .tree 3 (x.Saved.map cCore), .tree 1 (x.Over.map cB)]] = (xs ++ [x]).map cKernel := by simp
theorem solid_cKernel {xs : List DKernel} : solid (xs.map cKernel) = true := solid_map fun _ => rfl
def FT := (And.intro (And.intro (And.intro (And.intro @solid_cNode (And.intro @solid_cEntry @solid_cMonitor)) (And.intro (And.intro @solid_cProcess @solid_cProgram) (And.intro @solid_cGate @solid_cCore))) (And.intro (And.intro (And.intro @solid_cPlaces @solid_cImage) (And.intro @solid_cKernel @flat_cEntry)) (And.intro (And.intro @snoc_cNode @snoc_cEntry) (And.intro @snoc_cMonitor @snoc_cProcess)))) (And.intro (And.intro (And.intro (And.intro @snoc_cProgram @snoc_cGate) (And.intro @snoc_cCore @snoc_cPlaces)) (And.intro (And.intro @snoc_cImage @snoc_cKernel) (And.intro @set_cNode @set_cEntry))) (And.intro (And.intro (And.intro @set_cMonitor @set_cProcess) (And.intro @set_cProgram @set_cGate)) (And.intro (And.intro @set_cCore @set_cPlaces) (And.intro @set_cImage @set_cKernel)))))
/-! the cursor of a draw: a box on the caller's heap; gcOk: what a call leaves is what was there -/
structure Cur where
  b : List UInt8
  i : Nat
  h : Int
abbrev cCur (c : Cur) : List AV := [.tree 1 (c.b.map cY), .int .i64 (c.i : Int), .int .i64 c.h]
def nextH (h : Int) : Int := IntKind.wrap .i64 (IntKind.wrap .i64 (h * 6364136223846793005) + 1442695040888963407)
def lowB (x : Int) : Int := IntKind.wrap .i64 (BitVec.ofInt 64 x &&& BitVec.ofInt 64 255).toNat
def s33 (x : Int) : Int := x.fdiv (2 ^ 33)
def s45 (x : Int) : Int := x.fdiv (2 ^ 45)
def xorI (x y : Int) : Int := IntKind.wrap .i64 (BitVec.ofInt 64 x ^^^ BitVec.ofInt 64 y).toNat
theorem b33 {w : Int} : bin .shr (.int .i64 w) (.int .u64 33) = some (.int .i64 (s33 w)) := rfl
theorem b45 {w : Int} : bin .shr (.int .i64 w) (.int .u64 45) = some (.int .i64 (s45 w)) := rfl
theorem bxor {x y : Int} : bin .xor (.int .i64 x) (.int .i64 y) = some (.int .i64 (xorI x y)) := rfl
theorem b255 {x : Int} : bin .and (.int .i64 x) (.int .i64 255) = some (.int .i64 (lowB x)) := rfl
def rawB (h : Int) : Int := lowB (xorI (s33 h) (s45 h))
def byteF (c : Cur) : Int × Cur := if hi : c.i < c.b.length then (lowB (IntKind.wrap .i64 (rawB (nextH c.h) + (c.b[c.i].toNat : Int))), ⟨c.b, c.i + 1, nextH c.h⟩) else (rawB (nextH c.h), ⟨c.b, c.i, nextH c.h⟩)
theorem lowB_bd {x : Int} : 0 ≤ lowB x ∧ lowB x < 256 := by
  unfold lowB
  have h : (BitVec.ofInt 64 x &&& BitVec.ofInt 64 255).toNat ≤ 255 := by
    rw [BitVec.toNat_and]
    exact Nat.le_trans Nat.and_le_right (by decide)
  rw [wrapI (by omega) (by omega)]
  omega
theorem fsem_spec_l01Byte (c : Cur) (hb : c.b.length ≤ 1048576) : H_spec_l01Byte [.ptr ⟨0, none, 0⟩ 3 0 0] [some ⟨true, 0, 3, [[.tree 1 (c.b.map cY), .int .i64 (c.i : Int), .int .i64 c.h]]⟩] = some (.int .i64 (byteF c).1, [some ⟨true, 0, 3, [[.tree 1 ((byteF c).2.b.map cY), .int .i64 ((byteF c).2.i : Int), .int .i64 (byteF c).2.h]]⟩]) := by
  obtain ⟨b, i, h⟩ := c
  simp only at hb
  have hn : IntKind.wrap .i64 (IntKind.wrap .i64 (h * 6364136223846793005) + 1442695040888963407) = nextH h := rfl
  have hx : ∀ x, lowB (xorI (s33 x) (s45 x)) = rawB x := fun _ => rfl
  rw [sh_spec_l01Byte, run_goF]
  by_cases hi : i < b.length
  · have hi' : (i : Int) < (b.length : Int) := by omega
    have e : byteF ⟨b, i, h⟩ = (lowB (IntKind.wrap .i64 (rawB (nextH h) + (b[i].toNat : Int))), ⟨b, i + 1, nextH h⟩) := by simp only [byteF, hi, dif_pos]
    have hgr := getRow cY b hi
    have hwb : IntKind.wrap .i64 (b[i].toNat : Int) = (b[i].toNat : Int) := by have := b[i].toNat_lt; exact wrapI (by omega) (by omega)
    simp only [cY] at hgr
    simp (maxSteps := 10000000) (disch := first | assumption | omega) only [F_spec_l01Byte, params, EG, EL, ↓reduceIte, Nat.reduceEqDiff, Nat.reduceAdd, Nat.reduceSub, Nat.reduceMul, Nat.reduceLeDiff, Nat.reduceLT, Int.reduceLT, Int.reduceLE, Int.reduceEq, Int.reduceToNat, reduceCtorEq, FB, ED, FT, cx_spec_l01Byte, hn, b33, b45, bxor, b255, hx, hi, hi', wrap_succ, hgr, hwb, e]
  · have hi' : ¬ (i : Int) < (b.length : Int) := by omega
    have e : byteF ⟨b, i, h⟩ = (rawB (nextH h), ⟨b, i, nextH h⟩) := by simp only [byteF, hi, dif_neg, not_false_iff]
    simp (maxSteps := 10000000) (disch := first | assumption | omega) only [F_spec_l01Byte, params, EG, EL, ↓reduceIte, Nat.reduceEqDiff, Nat.reduceAdd, Nat.reduceSub, Nat.reduceMul, Nat.reduceLeDiff, Nat.reduceLT, Int.reduceLT, Int.reduceLE, Int.reduceEq, Int.reduceToNat, reduceCtorEq, FB, ED, FT, cx_spec_l01Byte, hn, b33, b45, bxor, b255, hx, hi, hi', e]
theorem byteF_b {c : Cur} : (byteF c).2.b = c.b := by unfold byteF; split <;> rfl
theorem byteF_bd {c : Cur} : 0 ≤ (byteF c).1 ∧ (byteF c).1 < 256 := by unfold byteF rawB; split <;> exact lowB_bd
def belowF (n : Int) (c : Cur) : Int × Cur :=
  if n ≤ 0 then (0, c) else if n ≤ 256 then ((byteF c).1.tmod n, (byteF c).2) else
    (((byteF c).1 * 16777216 + (byteF (byteF c).2).1 * 65536 + (byteF (byteF (byteF c).2).2).1 * 256 + (byteF (byteF (byteF (byteF c).2).2).2).1).tmod n, (byteF (byteF (byteF (byteF c).2).2).2).2)
theorem belowF_b {n : Int} {c : Cur} : (belowF n c).2.b = c.b := by
  unfold belowF; split
  · rfl
  · split <;> simp only [byteF_b]
theorem tmod_bd {a n : Int} (h : 0 ≤ a) (h2 : 0 < n) : 0 ≤ a.tmod n ∧ a.tmod n < n := ⟨Int.tmod_nonneg _ h, Int.tmod_lt_of_pos _ h2⟩
theorem belowF_bd {n : Int} {c : Cur} (h : 0 < n) : 0 ≤ (belowF n c).1 ∧ (belowF n c).1 < n := by
  have h1 := @byteF_bd c
  have h2 := @byteF_bd (byteF c).2
  have h3 := @byteF_bd (byteF (byteF c).2).2
  have h4 := @byteF_bd (byteF (byteF (byteF c).2).2).2
  unfold belowF
  rw [if_neg (by omega)]
  split
  · exact tmod_bd h1.1 h
  · exact tmod_bd (by omega) h
set_option maxHeartbeats 2000000 in
theorem fsem_spec_l01Below (c : Cur) (n : Int) (hb : c.b.length ≤ 1048576) : H_spec_l01Below [.ptr ⟨0, none, 0⟩ 3 0 0, .int .i64 n] [some ⟨true, 0, 3, [[.tree 1 (c.b.map cY), .int .i64 (c.i : Int), .int .i64 c.h]]⟩] = some (.int .i64 (belowF n c).1, [some ⟨true, 0, 3, [[.tree 1 ((belowF n c).2.b.map cY), .int .i64 ((belowF n c).2.i : Int), .int .i64 (belowF n c).2.h]]⟩]) := by
  have k1 := fsem_spec_l01Byte c hb
  have k2 := fsem_spec_l01Byte (byteF c).2 (by rw [byteF_b]; exact hb)
  have k3 := fsem_spec_l01Byte (byteF (byteF c).2).2 (by rw [byteF_b, byteF_b]; exact hb)
  have k4 := fsem_spec_l01Byte (byteF (byteF (byteF c).2).2).2 (by rw [byteF_b, byteF_b, byteF_b]; exact hb)
  have d1 := @byteF_bd c
  have d2 := @byteF_bd (byteF c).2
  have d3 := @byteF_bd (byteF (byteF c).2).2
  have d4 := @byteF_bd (byteF (byteF (byteF c).2).2).2
  rw [sh_spec_l01Below, run_goF]
  unfold belowF
  by_cases h0 : n ≤ 0
  · simp (maxSteps := 10000000) (disch := first | assumption | omega) only [F_spec_l01Below, params, EG, EL, ↓reduceIte, Nat.reduceEqDiff, Nat.reduceAdd, Nat.reduceSub, Nat.reduceMul, Nat.reduceLeDiff, Nat.reduceLT, Int.reduceLT, Int.reduceLE, Int.reduceEq, Int.reduceToNat, reduceCtorEq, FB, ED, FT, cx_spec_l01Below, h0]
  · by_cases h2 : n ≤ 256
    · have hn0 : ¬ n = 0 := by omega
      simp (maxSteps := 10000000) (disch := first | assumption | omega) only [F_spec_l01Below, params, EG, EL, ↓reduceIte, Nat.reduceEqDiff, Nat.reduceAdd, Nat.reduceSub, Nat.reduceMul, Nat.reduceLeDiff, Nat.reduceLT, Int.reduceLT, Int.reduceLE, Int.reduceEq, Int.reduceToNat, reduceCtorEq, FB, ED, EF, FT, cx_spec_l01Below, h0, h2, hn0, cl_spec_l01Byte, k1]
    · have hn0 : ¬ n = 0 := by omega
      simp (maxSteps := 10000000) (disch := first | assumption | omega) only [F_spec_l01Below, params, EG, EL, ↓reduceIte, Nat.reduceEqDiff, Nat.reduceAdd, Nat.reduceSub, Nat.reduceMul, Nat.reduceLeDiff, Nat.reduceLT, Int.reduceLT, Int.reduceLE, Int.reduceEq, Int.reduceToNat, reduceCtorEq, FB, ED, EF, FT, cx_spec_l01Below, h0, h2, hn0, cl_spec_l01Byte, k1, k2, k3, k4, wrapI]
def andH (x : Int) : Int := IntKind.wrap .i64 (BitVec.ofInt 64 x &&& BitVec.ofInt 64 1073741823).toNat
theorem bandH {x : Int} : bin .and (.int .i64 x) (.int .i64 1073741823) = some (.int .i64 (andH x)) := rfl
def stepH (h : Int) (b : UInt8) : Int := andH (IntKind.wrap .i64 (IntKind.wrap .i64 (IntKind.wrap .i64 (h * 131) + (b.toNat : Int)) + 7))
def hashF : List UInt8 → Int → Int
  | [], h => h
  | b :: r, h => hashF r (stepH h b)
theorem loop_l01New (bs : List UInt8) (hb : bs.length ≤ 1048576) (h0 : Int) : loopV X_spec_l01New 0 [0, 3, 4] [(1, [0, 3])] B0_spec_l01New ⟨[(0, .tree 1 (bs.map cY)), (3, .int .i64 h0), (4, .int .i64 0)], []⟩ = some (.exit 0, ⟨[(0, .tree 1 (bs.map cY)), (3, .int .i64 (hashF (bs.take 4000) h0))], []⟩) := by
  refine loop_list (bs.take 4000) (fun _ (_ : Int) => True) (fun i h => ⟨[(0, .tree 1 (bs.map cY)), (3, .int .i64 h), (4, .int .i64 ((i : Nat) : Int))], []⟩) (fun rest h => some (.exit 0, ⟨[(0, .tree 1 (bs.map cY)), (3, .int .i64 (hashF rest h))], []⟩)) ?_ ?_ h0 trivial
  · intro h _
    have hl : (bs.take 4000).length = min 4000 bs.length := by simp
    rw [loopV_by B0_spec_l01New.eq_1]
    by_cases hc : bs.length ≤ 4000
    · have : (bs.take 4000).length = bs.length := by omega
      simp (maxSteps := 10000000) (disch := first | assumption | omega) only [EG, EL, ↓reduceIte, Nat.reduceEqDiff, Nat.reduceAdd, Nat.reduceSub, Nat.reduceMul, Nat.reduceLeDiff, Nat.reduceLT, Int.reduceLT, Int.reduceLE, Int.reduceEq, Int.reduceToNat, reduceCtorEq, FB, this, int_lt_irrefl, hashF]
    · have : (bs.take 4000).length = 4000 := by omega
      have h2 : ((4000 : Nat) : Int) < (bs.length : Int) := by omega
      have h3 : ¬ ((4000 : Nat) : Int) < 4000 := by omega
      simp (maxSteps := 10000000) (disch := first | assumption | omega) only [EG, EL, ↓reduceIte, Nat.reduceEqDiff, Nat.reduceAdd, Nat.reduceSub, Nat.reduceMul, Nat.reduceLeDiff, Nat.reduceLT, Int.reduceLT, Int.reduceLE, Int.reduceEq, Int.reduceToNat, reduceCtorEq, FB, this, h2, h3, hashF]
      split <;> rfl
  · rintro i hi0 y rest h rfl rfl _ ih
    have hl : (bs.take 4000).length = min 4000 bs.length := by simp
    have hi : i < bs.length := by omega
    have hi' : (i : Int) < (bs.length : Int) := by omega
    have h4 : (i : Int) < 4000 := by omega
    have hge : (bs.take 4000)[i] = bs[i] := List.getElem_take
    have hgr := getRow cY bs hi
    have hwb : IntKind.wrap .i64 (bs[i].toNat : Int) = (bs[i].toNat : Int) := by have := bs[i].toNat_lt; exact wrapI (by omega) (by omega)
    simp only [cY] at hgr
    have i1 := ih (stepH h bs[i]) trivial
    have hst : andH (IntKind.wrap .i64 (IntKind.wrap .i64 (IntKind.wrap .i64 (h * 131) + (bs[i].toNat : Int)) + 7)) = stepH h bs[i] := rfl
    rw [loopV_by B0_spec_l01New.eq_1, hge]
    simp (maxSteps := 10000000) (disch := first | assumption | omega) only [EG, EL, ↓reduceIte, Nat.reduceEqDiff, Nat.reduceAdd, Nat.reduceSub, Nat.reduceMul, Nat.reduceLeDiff, Nat.reduceLT, Int.reduceLT, Int.reduceLE, Int.reduceEq, Int.reduceToNat, reduceCtorEq, FB, ED, FT, cx_spec_l01New, hi', h4, hgr, wrap_succ, hwb, bandH, hst, i1, hashF]
def curNew (bs : List UInt8) : Cur := ⟨bs, 0, hashF (bs.take 4000) (IntKind.wrap .i64 (76401 + (bs.length : Int)))⟩
theorem fsem_spec_l01New (bs : List UInt8) (hb : bs.length ≤ 1048576) : H_spec_l01New [.tree 1 (bs.map cY)] [] = some (.ptr ⟨0, none, 0⟩ 3 0 0, [some ⟨true, 0, 3, [[.tree 1 ((curNew bs).b.map cY), .int .i64 ((curNew bs).i : Int), .int .i64 (curNew bs).h]]⟩]) := by
  have l := loop_l01New bs hb (IntKind.wrap .i64 (76401 + (bs.length : Int)))
  rw [sh_spec_l01New, run_goF]
  simp (maxSteps := 10000000) (disch := first | assumption | omega) only [F_spec_l01New, params, EG, EL, ↓reduceIte, Nat.reduceEqDiff, Nat.reduceAdd, Nat.reduceSub, Nat.reduceMul, Nat.reduceLeDiff, Nat.reduceLT, Int.reduceLT, Int.reduceLE, Int.reduceEq, Int.reduceToNat, reduceCtorEq, FB, ED, FT, cx_spec_l01New, l, curNew]
/-! gates -/
/-- In line, each in 0 .. 3 and none of those seen. -/
def freshB (seen : List Int) : List Int → Bool
  | [] => true
  | x :: xs => decide (0 ≤ x ∧ x ≤ 3) && (decide (x ∉ seen) && freshB (seen ++ [x]) xs)
def qfreshB (seen : List Int) : List Int → Bool
  | [] => true
  | x :: xs => if x = -1 then qfreshB (seen ++ [x]) xs else decide (0 ≤ x ∧ x ≤ 3) && (decide (x ∉ seen) && qfreshB (seen ++ [x]) xs)
def somebody (xs : List Int) : List Int := xs.filter (fun x => decide (x ≠ -1))
theorem freshB_app : ∀ (xs ys seen : List Int), freshB seen (xs ++ ys) = (freshB seen xs && freshB (seen ++ xs) ys)
  | [], ys, seen => by simp [freshB]
  | x :: xs, ys, seen => by
    simp only [List.cons_append, freshB, freshB_app xs ys (seen ++ [x]), List.append_assoc, List.singleton_append, List.nil_append, Bool.and_assoc]
theorem freshB_mem : ∀ (xs seen : List Int), freshB seen xs = true → ∀ x ∈ xs, 0 ≤ x ∧ x ≤ 3
  | [], _, _, x, hx => by simp at hx
  | y :: ys, seen, h, x, hx => by
    unfold freshB at h
    simp only [Bool.and_eq_true, decide_eq_true_eq] at h
    rcases List.mem_cons.1 hx with rfl | hx
    · exact h.1
    · exact freshB_mem ys _ h.2.2 x hx
theorem qfreshB_eq : ∀ (xs seen : List Int), qfreshB seen xs = freshB (somebody seen) (somebody xs)
  | [], seen => rfl
  | x :: xs, seen => by
    unfold qfreshB
    rw [qfreshB_eq xs (seen ++ [x])]
    by_cases h : x = -1
    · subst h
      simp [somebody]
    · have hm : x ∈ somebody seen ↔ x ∈ seen := by simp [somebody, h]
      rw [if_neg h]
      have e : somebody (x :: xs) = x :: somebody xs := by simp [somebody, h]
      rw [e]
      have e2 : somebody (seen ++ [x]) = somebody seen ++ [x] := by simp [somebody, h]
      rw [e2]
      conv => rhs; unfold freshB
      simp only [hm]
/-- A right gate. -/
def gateOk (owner : Int) (waits queues : List Int) : Bool :=
  decide (queues.length ≤ 2) && (freshB [] ((if owner = -1 then [] else [owner]) ++ waits ++ somebody queues) && decide (owner ≠ -1 ∨ waits.length = 0))
theorem gateOk_low {owner : Int} {waits queues : List Int} (h : ¬ (-1 ≤ owner ∧ owner ≤ 3)) : gateOk owner waits queues = false := by
  unfold gateOk
  rw [if_neg (by omega)]
  simp only [List.cons_append, List.nil_append]
  unfold freshB
  have : ¬ (0 ≤ owner ∧ owner ≤ 3) := by omega
  simp [this]
def inGate (owner : Int) (waits queues : List Int) : List Int := (if owner = -1 then [] else [owner]) ++ waits ++ somebody queues
theorem inGate_len (owner : Int) (waits queues : List Int) : (inGate owner waits queues).length ≤ 1 + waits.length + queues.length := by
  unfold inGate somebody
  have := List.length_filter_le (fun x : Int => decide (x ≠ -1)) queues
  rw [List.length_append, List.length_append]
  split <;> simp only [List.length_nil, List.length_cons] <;> omega
/-- How the reference tells a right gate. -/
theorem gateOk_spec (owner : Int) (waits queues : List Int) : gateOk owner waits queues = (decide (-1 ≤ owner ∧ owner ≤ 3) && (decide (queues.length ≤ 2) && (!(decide (owner < 0) && decide (0 < waits.length)) && (freshB (if 0 ≤ owner then [owner] else []) waits && qfreshB ((if 0 ≤ owner then [owner] else []) ++ waits) queues)))) := by
  by_cases h1 : -1 ≤ owner ∧ owner ≤ 3
  · by_cases h3 : owner < 0
    · have ho : owner = -1 := by omega
      subst ho
      by_cases h4 : waits = []
      · subst h4
        rw [qfreshB_eq]
        simp [gateOk, freshB, somebody]
      · have : ¬ waits.length = 0 := by simpa using h4
        simp [gateOk, h4, List.length_pos_iff]
    · have ho : ¬ owner = -1 := by omega
      have ho2 : 0 ≤ owner ∧ owner ≤ 3 := by omega
      rw [if_pos ho2.1, qfreshB_eq]
      unfold gateOk
      rw [if_neg ho, freshB_app ([owner] ++ waits), freshB_app [owner]]
      have e1 : freshB [] [owner] = true := by simp [freshB, ho2]
      rw [e1]
      simp only [h1, h3, and_self, decide_true, decide_false, Bool.true_and, List.nil_append, ho, not_false_eq_true, true_or, ne_eq, Bool.and_true, Bool.false_and, Bool.not_false]
      cases hf : freshB [owner] waits with
      | false => simp
      | true =>
        have hm := freshB_mem _ _ hf
        have e2 : somebody ([owner] ++ waits) = [owner] ++ waits := by
          unfold somebody
          rw [List.filter_eq_self]
          intro x hx
          rcases List.mem_append.1 hx with hx | hx
          · have := List.mem_singleton.1 hx
            exact decide_eq_true (by omega)
          · have := hm x hx
            exact decide_eq_true (by omega)
        rw [e2]
  · rw [gateOk_low h1]
    simp [h1]
theorem map_cI_snoc {xs : List Int} {y : Int} : xs.map cI ++ [[.int .i64 y]] = (xs ++ [y]).map cI := by simp
theorem map_cI_app {xs ys : List Int} : xs.map cI ++ ys.map cI = (xs ++ ys).map cI := by simp
theorem map_cI_one {y : Int} : [[AV.int .i64 y]] = [y].map cI := rfl
/-- A loop that goes on, or gives false. -/
def okR (b : Bool) (e : Nat) (s : St) (t : Nat) : Option (Ex × St) := if b = true then some (.exit e, s) else some (.ret, ⟨[(t, .bool false)], []⟩)
theorem okR_true {e t : Nat} {s : St} : okR true e s t = some (.exit e, s) := rfl
theorem okR_false {e t : Nat} {s : St} : okR false e s t = some (.ret, ⟨[(t, .bool false)], []⟩) := rfl
theorem goE_okR {ctx : Ctx} {base : Nat} {b : Bool} {e t : Nat} {s : St} {K : List Fr} : goE ctx base (okR b e s t) K = if b = true then unw ctx base K (.exit e) s else unw ctx base K .ret ⟨[(t, .bool false)], []⟩ := by
  unfold okR; split <;> rfl
theorem mem_fIx {xs : List Int} {x : Int} : ∀ {i : Nat}, (0 ≤ fIx (fun y => decide (x = y)) xs i) = (x ∈ xs) := by
  induction xs with
  | nil => intro i; simp [fIx]
  | cons y ys ih =>
    intro i
    by_cases h : x = y
    · subst h; simp [fIx]
    · simp only [fIx, h, decide_false, Bool.false_eq_true, if_false, ih, List.mem_cons, false_or]
theorem sem_spec_l01In (a lo hi : Int) : S_spec_l01In.sem [.int .i64 a, .int .i64 lo, .int .i64 hi] = some (.bool (decide (lo ≤ a ∧ a ≤ hi)), []) := by
  rw [sg_spec_l01In, sem_go]
  simp (maxSteps := 10000000) (disch := first | assumption | omega) only [F_spec_l01In, params, EG, EL, ↓reduceIte, Nat.reduceEqDiff, Nat.reduceAdd, Nat.reduceSub, Nat.reduceMul, Nat.reduceLeDiff, Nat.reduceLT, Int.reduceLT, Int.reduceLE, Int.reduceEq, Int.reduceToNat, reduceCtorEq, FB, cx_spec_l01In]
  by_cases h1 : lo ≤ a <;> by_cases h2 : a ≤ hi <;> simp [h1, h2]
theorem sem_impl_within (a lo hi : Int) : S_impl_within.sem [.int .i64 a, .int .i64 lo, .int .i64 hi] = some (.bool (decide (lo ≤ a ∧ a ≤ hi)), []) := by
  rw [sg_impl_within, sem_go]
  simp (maxSteps := 10000000) (disch := first | assumption | omega) only [F_impl_within, params, EG, EL, ↓reduceIte, Nat.reduceEqDiff, Nat.reduceAdd, Nat.reduceSub, Nat.reduceMul, Nat.reduceLeDiff, Nat.reduceLT, Int.reduceLT, Int.reduceLE, Int.reduceEq, Int.reduceToNat, reduceCtorEq, FB, cx_impl_within]
  by_cases h1 : lo ≤ a <;> by_cases h2 : a ≤ hi <;> simp [h1, h2]
theorem sem_spec_l12In (xs : List Int) (x : Int) (hl : xs.length ≤ 140737488351232) : S_spec_l12In.sem [.tree 1 (xs.map cI), .int .i64 x] = some (.bool (decide (x ∈ xs)), []) := by
  have loop : loopV X_spec_l12In 0 [0, 1, 5] [(1, []), (0, [4])] B0_spec_l12In ⟨[(0, .tree 1 (xs.map cI)), (1, .int .i64 x), (5, .int .i64 0)], []⟩ = if x ∈ xs then some (.ret, ⟨[(4, .bool true)], []⟩) else some (.exit 0, ⟨[], []⟩) := by
    refine loop_list xs (fun _ (_ : Unit) => True) (fun i _ => ⟨[(0, .tree 1 (xs.map cI)), (1, .int .i64 x), (5, .int .i64 (i : Int))], []⟩) (fun rest _ => if x ∈ rest then some (.ret, ⟨[(4, .bool true)], []⟩) else some (.exit 0, ⟨[], []⟩)) ?_ ?_ () trivial
    · intro _ _
      rw [loopV_by B0_spec_l12In.eq_1]
      simp only [EG, EL, ↓reduceIte, Nat.reduceEqDiff, Nat.reduceAdd, Nat.reduceSub, Nat.reduceMul, Nat.reduceLeDiff, Nat.reduceLT, Int.reduceLT, Int.reduceLE, Int.reduceEq, Int.reduceToNat, reduceCtorEq, FB, int_lt_irrefl, List.not_mem_nil]
    · rintro i h y rest _ rfl rfl _ ih
      have hi : (i : Int) < (xs.length : Int) := by omega
      rw [loopV_by B0_spec_l12In.eq_1]
      simp (maxSteps := 10000000) (disch := first | assumption | omega) only [EG, EL, ↓reduceIte, Nat.reduceEqDiff, Nat.reduceAdd, Nat.reduceSub, Nat.reduceMul, Nat.reduceLeDiff, Nat.reduceLT, Int.reduceLT, Int.reduceLE, Int.reduceEq, Int.reduceToNat, reduceCtorEq, FB, hi, wrap_succ, getRow _ _ h, ih () trivial]
      by_cases h1 : xs[i] = x
      · simp [h1]
      · have h1' : ¬ x = xs[i] := fun e => h1 e.symm
        simp only [h1, h1', if_false, List.mem_cons, false_or]
  rw [sg_spec_l12In, sem_go]
  simp (maxSteps := 10000000) (disch := first | assumption | omega) only [F_spec_l12In, params, EG, EL, ↓reduceIte, Nat.reduceEqDiff, Nat.reduceAdd, Nat.reduceSub, Nat.reduceMul, Nat.reduceLeDiff, Nat.reduceLT, Int.reduceLT, Int.reduceLE, Int.reduceEq, Int.reduceToNat, reduceCtorEq, FB, loop]
  by_cases h : x ∈ xs <;> simp only [h, EG, EL, ↓reduceIte, Nat.reduceEqDiff, Nat.reduceAdd, Nat.reduceSub, Nat.reduceMul, Nat.reduceLeDiff, Nat.reduceLT, Int.reduceLT, Int.reduceLE, Int.reduceEq, Int.reduceToNat, reduceCtorEq, FB, decide_true, decide_false]
theorem sem_slices_Index_int_int (xs : List Int) (x : Int) (hl : xs.length ≤ 140737488351232) : S_slices_Index_int_int.sem [.tree 1 (xs.map cI), .int .i64 x] = some (.int .i64 (fIx (fun y => decide (x = y)) xs 0), []) := by
  have loop : loopV X_slices_Index_int_int 0 [0, 1, 7, 8] [(1, []), (0, [4])] B0_slices_Index_int_int ⟨[(0, .tree 1 (xs.map cI)), (1, .int .i64 x), (7, .int .i64 xs.length), (8, .int .i64 0)], []⟩ = fixR 4 (fIx (fun y => decide (x = y)) xs 0) := by
    refine loop_list xs (fun i a => a = i) (fun i a => ⟨[(0, .tree 1 (xs.map cI)), (1, .int .i64 x), (7, .int .i64 xs.length), (8, .int .i64 (i : Int))], []⟩) (fun rest a => fixR 4 (fIx (fun y => decide (x = y)) rest a)) ?_ ?_ 0 rfl
    · rintro a rfl
      rw [loopV_by B0_slices_Index_int_int.eq_1]
      simp only [EG, EL, ↓reduceIte, Nat.reduceEqDiff, Nat.reduceAdd, Nat.reduceSub, Nat.reduceMul, Nat.reduceLeDiff, Nat.reduceLT, Int.reduceLT, Int.reduceLE, Int.reduceEq, Int.reduceToNat, reduceCtorEq, FB, int_lt_irrefl]
      exact fixR_nil
    · rintro i h y rest a rfl rfl rfl ih
      have hi : (a : Int) < (xs.length : Int) := by omega
      rw [loopV_by B0_slices_Index_int_int.eq_1]
      simp (maxSteps := 10000000) (disch := first | assumption | omega) only [EG, EL, ↓reduceIte, Nat.reduceEqDiff, Nat.reduceAdd, Nat.reduceSub, Nat.reduceMul, Nat.reduceLeDiff, Nat.reduceLT, Int.reduceLT, Int.reduceLE, Int.reduceEq, Int.reduceToNat, reduceCtorEq, FB, hi, wrap_succ, getRow _ _ h, ih _ rfl]
      by_cases h1 : x = xs[a] <;> simp only [h1, if_true, if_false]
      · exact fixR_yes (by simp)
      · exact fixR_no (by simp [h1])
  rw [sg_slices_Index_int_int, sem_go]
  simp (maxSteps := 10000000) (disch := first | assumption | omega) only [F_slices_Index_int_int, params, EG, EL, ↓reduceIte, Nat.reduceEqDiff, Nat.reduceAdd, Nat.reduceSub, Nat.reduceMul, Nat.reduceLeDiff, Nat.reduceLT, Int.reduceLT, Int.reduceLE, Int.reduceEq, Int.reduceToNat, reduceCtorEq, FB, loop, goE_fixR]
  rcases @fIx_ge _ (fun y => decide (x = y)) xs 0 with h | h
  · simp [h]
  · rw [if_neg (by omega)]
theorem sem_slices_Contains_int_int (xs : List Int) (x : Int) (hl : xs.length ≤ 140737488351232) : S_slices_Contains_int_int.sem [.tree 1 (xs.map cI), .int .i64 x] = some (.bool (decide (x ∈ xs)), []) := by
  rw [sg_slices_Contains_int_int, sem_go]
  simp (maxSteps := 10000000) (disch := first | assumption | omega) only [F_slices_Contains_int_int, params, EG, EL, ↓reduceIte, Nat.reduceEqDiff, Nat.reduceAdd, Nat.reduceSub, Nat.reduceMul, Nat.reduceLeDiff, Nat.reduceLT, Int.reduceLT, Int.reduceLE, Int.reduceEq, Int.reduceToNat, reduceCtorEq, FB, cx_slices_Contains_int_int, cl_slices_Index_int_int, sem_slices_Index_int_int, mem_fIx]
theorem sem_spec_l12Copy (x : DGate) (h : x.Waits.length + x.Queues.length ≤ 1099511627776) : S_spec_l12Copy.sem [.agg (cGate x)] = some (.agg (cGate x), []) := by
  have h1 : x.Waits.length * 8 ≤ 70368744177664 := by omega
  have h2 : x.Queues.length * 8 ≤ 70368744177664 := by omega
  rw [sg_spec_l12Copy, sem_go]
  simp (maxSteps := 10000000) (disch := first | assumption | omega) only [F_spec_l12Copy, params, EG, EL, ↓reduceIte, Nat.reduceEqDiff, Nat.reduceAdd, Nat.reduceSub, Nat.reduceMul, Nat.reduceLeDiff, Nat.reduceLT, Int.reduceLT, Int.reduceLE, Int.reduceEq, Int.reduceToNat, reduceCtorEq, FB, ED, cx_spec_l12Copy, h1, h2]
theorem sem_impl_copyGate (x : DGate) (h : x.Waits.length + x.Queues.length ≤ 1099511627776) : S_impl_copyGate.sem [.agg (cGate x)] = some (.agg (cGate x), []) := by
  have h1 : x.Waits.length * 8 ≤ 70368744177664 := by omega
  have h2 : x.Queues.length * 8 ≤ 70368744177664 := by omega
  rw [sg_impl_copyGate, sem_go]
  simp (maxSteps := 10000000) (disch := first | assumption | omega) only [F_impl_copyGate, params, EG, EL, ↓reduceIte, Nat.reduceEqDiff, Nat.reduceAdd, Nat.reduceSub, Nat.reduceMul, Nat.reduceLeDiff, Nat.reduceLT, Int.reduceLT, Int.reduceLE, Int.reduceEq, Int.reduceToNat, reduceCtorEq, FB, ED, cx_impl_copyGate, h1, h2]
theorem sem_spec_GateOk (x : DGate) (h : x.Waits.length + x.Queues.length ≤ 1099511627776) : S_spec_GateOk.sem [.agg (cGate x)] = some (.bool (gateOk x.Owner x.Waits x.Queues), []) := by
  have loop0 : ∀ all : List Int, all.length ≤ 1 → loopV X_spec_GateOk 0 [1, 3, 4] [(1, [1, 3]), (0, [2])] B0_spec_GateOk ⟨[(1, .ptr ⟨0, none, 0⟩ 3 0 0), (3, .sl ⟨1, none, 0⟩ 1 0 all.length), (4, .int .i64 0)], [some ⟨true, 0, 3, [cGate x]⟩, some ⟨false, 0, 1, all.map cI⟩]⟩ = okR (freshB all x.Waits) 0 ⟨[(1, .ptr ⟨0, none, 0⟩ 3 0 0), (3, .sl ⟨1, none, 0⟩ 1 0 (all ++ x.Waits).length)], [some ⟨true, 0, 3, [cGate x]⟩, some ⟨false, 0, 1, (all ++ x.Waits).map cI⟩]⟩ 2 := by
    intro all hall
    refine loop_list x.Waits (fun i (a : List Int) => a.length ≤ 1 + i) (fun i a => ⟨[(1, .ptr ⟨0, none, 0⟩ 3 0 0), (3, .sl ⟨1, none, 0⟩ 1 0 a.length), (4, .int .i64 ((i : Nat) : Int))], [some ⟨true, 0, 3, [cGate x]⟩, some ⟨false, 0, 1, a.map cI⟩]⟩) (fun rest a => okR (freshB a rest) 0 ⟨[(1, .ptr ⟨0, none, 0⟩ 3 0 0), (3, .sl ⟨1, none, 0⟩ 1 0 (a ++ rest).length)], [some ⟨true, 0, 3, [cGate x]⟩, some ⟨false, 0, 1, (a ++ rest).map cI⟩]⟩ 2) ?_ ?_ all hall
    · intro a _
      rw [loopV_by B0_spec_GateOk.eq_1]
      simp only [EG, EL, ↓reduceIte, Nat.reduceEqDiff, Nat.reduceAdd, Nat.reduceSub, Nat.reduceMul, Nat.reduceLeDiff, Nat.reduceLT, Int.reduceLT, Int.reduceLE, Int.reduceEq, Int.reduceToNat, reduceCtorEq, FB, int_lt_irrefl, freshB, okR_true]
    · rintro i hi0 y rest a rfl rfl ha ih
      have hi : (i : Int) < (x.Waits.length : Int) := by omega
      have hc : (a.length + 1) * 8 ≤ 70368744177664 := by omega
      have hm : a.length ≤ 140737488351232 := by omega
      rw [loopV_by B0_spec_GateOk.eq_1]
      simp (maxSteps := 10000000) (disch := first | assumption | omega) only [EG, EL, ↓reduceIte, Nat.reduceEqDiff, Nat.reduceAdd, Nat.reduceSub, Nat.reduceMul, Nat.reduceLeDiff, Nat.reduceLT, Int.reduceLT, Int.reduceLE, Int.reduceEq, Int.reduceToNat, reduceCtorEq, FB, hi, wrap_succ, getRow _ _ hi0, hc, cx_spec_GateOk, cl_spec_l01In, sem_spec_l01In, cl_spec_l12In, sem_spec_l12In, map_cI_snoc, freshB]
      by_cases h1 : 0 ≤ x.Waits[i] ∧ x.Waits[i] ≤ 3
      · by_cases h2 : x.Waits[i] ∈ a
        · simp only [h1, h2, EG, EL, ↓reduceIte, Nat.reduceEqDiff, Nat.reduceAdd, Nat.reduceSub, Nat.reduceMul, Nat.reduceLeDiff, Nat.reduceLT, Int.reduceLT, Int.reduceLE, Int.reduceEq, Int.reduceToNat, reduceCtorEq, FB, not_true_eq_false, okR_false, Bool.false_and, Bool.and_false, decide_true]
        · have := ih (a ++ [x.Waits[i]]) (by simp; omega)
          simp only [EG, EL, ↓reduceIte, Nat.reduceEqDiff, Nat.reduceAdd, Nat.reduceSub, Nat.reduceMul, Nat.reduceLeDiff, Nat.reduceLT, Int.reduceLT, Int.reduceLE, Int.reduceEq, Int.reduceToNat, reduceCtorEq, FB, List.append_assoc] at this
          simp only [h1, h2, EG, EL, ↓reduceIte, Nat.reduceEqDiff, Nat.reduceAdd, Nat.reduceSub, Nat.reduceMul, Nat.reduceLeDiff, Nat.reduceLT, Int.reduceLT, Int.reduceLE, Int.reduceEq, Int.reduceToNat, reduceCtorEq, FB, this, decide_true, not_false_eq_true, List.append_assoc]
      · simp only [h1, EG, EL, ↓reduceIte, Nat.reduceEqDiff, Nat.reduceAdd, Nat.reduceSub, Nat.reduceMul, Nat.reduceLeDiff, Nat.reduceLT, Int.reduceLT, Int.reduceLE, Int.reduceEq, Int.reduceToNat, reduceCtorEq, FB, okR_false, Bool.false_and, decide_false]
  have loop1 : ∀ all : List Int, all.length ≤ 1 + x.Waits.length → loopV X_spec_GateOk 0 [1, 3, 5] [(3, []), (0, [2])] B1_spec_GateOk ⟨[(1, .ptr ⟨0, none, 0⟩ 3 0 0), (3, .sl ⟨1, none, 0⟩ 1 0 all.length), (5, .int .i64 0)], [some ⟨true, 0, 3, [cGate x]⟩, some ⟨false, 0, 1, all.map cI⟩]⟩ = okR (qfreshB all x.Queues) 2 ⟨[], []⟩ 2 := by
    intro all hall
    refine loop_list x.Queues (fun i (a : List Int) => a.length ≤ 1 + x.Waits.length + i) (fun i a => ⟨[(1, .ptr ⟨0, none, 0⟩ 3 0 0), (3, .sl ⟨1, none, 0⟩ 1 0 a.length), (5, .int .i64 ((i : Nat) : Int))], [some ⟨true, 0, 3, [cGate x]⟩, some ⟨false, 0, 1, a.map cI⟩]⟩) (fun rest a => okR (qfreshB a rest) 2 ⟨[], []⟩ 2) ?_ ?_ all hall
    · intro a _
      rw [loopV_by B1_spec_GateOk.eq_1]
      simp only [EG, EL, ↓reduceIte, Nat.reduceEqDiff, Nat.reduceAdd, Nat.reduceSub, Nat.reduceMul, Nat.reduceLeDiff, Nat.reduceLT, Int.reduceLT, Int.reduceLE, Int.reduceEq, Int.reduceToNat, reduceCtorEq, FB, int_lt_irrefl, qfreshB, okR_true]
    · rintro i hi0 y rest a rfl rfl ha ih
      have hi : (i : Int) < (x.Queues.length : Int) := by omega
      have hc : (a.length + 1) * 8 ≤ 70368744177664 := by omega
      have hm : a.length ≤ 140737488351232 := by omega
      have := ih (a ++ [x.Queues[i]]) (by simp; omega)
      simp only [EG, EL, ↓reduceIte, Nat.reduceEqDiff, Nat.reduceAdd, Nat.reduceSub, Nat.reduceMul, Nat.reduceLeDiff, Nat.reduceLT, Int.reduceLT, Int.reduceLE, Int.reduceEq, Int.reduceToNat, reduceCtorEq, FB, List.append_assoc] at this
      rw [loopV_by B1_spec_GateOk.eq_1]
      simp (maxSteps := 10000000) (disch := first | assumption | omega) only [EG, EL, ↓reduceIte, Nat.reduceEqDiff, Nat.reduceAdd, Nat.reduceSub, Nat.reduceMul, Nat.reduceLeDiff, Nat.reduceLT, Int.reduceLT, Int.reduceLE, Int.reduceEq, Int.reduceToNat, reduceCtorEq, FB, hi, wrap_succ, getRow _ _ hi0, hc, cx_spec_GateOk, cl_spec_l01In, sem_spec_l01In, cl_spec_l12In, sem_spec_l12In, map_cI_snoc, qfreshB, this]
      by_cases h0 : x.Queues[i] = -1
      · simp only [h0, EG, EL, ↓reduceIte, Nat.reduceEqDiff, Nat.reduceAdd, Nat.reduceSub, Nat.reduceMul, Nat.reduceLeDiff, Nat.reduceLT, Int.reduceLT, Int.reduceLE, Int.reduceEq, Int.reduceToNat, reduceCtorEq, FB]
      · simp only [h0, if_false]
        by_cases h1 : 0 ≤ x.Queues[i] ∧ x.Queues[i] ≤ 3
        · have h3 : -1 ≤ x.Queues[i] := by omega
          by_cases h2 : x.Queues[i] ∈ a
          · simp only [h1, h2, h3, EG, EL, ↓reduceIte, Nat.reduceEqDiff, Nat.reduceAdd, Nat.reduceSub, Nat.reduceMul, Nat.reduceLeDiff, Nat.reduceLT, Int.reduceLT, Int.reduceLE, Int.reduceEq, Int.reduceToNat, reduceCtorEq, FB, not_true_eq_false, okR_false, Bool.false_and, Bool.and_false, decide_true]
          · simp only [h1, h2, h3, EG, EL, ↓reduceIte, Nat.reduceEqDiff, Nat.reduceAdd, Nat.reduceSub, Nat.reduceMul, Nat.reduceLeDiff, Nat.reduceLT, Int.reduceLT, Int.reduceLE, Int.reduceEq, Int.reduceToNat, reduceCtorEq, FB, decide_true, not_false_eq_true]
        · have h3 : ¬ (-1 ≤ x.Queues[i] ∧ x.Queues[i] ≤ 3) := by omega
          simp only [h1, h3, EG, EL, ↓reduceIte, Nat.reduceEqDiff, Nat.reduceAdd, Nat.reduceSub, Nat.reduceMul, Nat.reduceLeDiff, Nat.reduceLT, Int.reduceLT, Int.reduceLE, Int.reduceEq, Int.reduceToNat, reduceCtorEq, FB, okR_false, Bool.false_and, decide_false]
  rw [sg_spec_GateOk, sem_go, gateOk_spec]
  simp (maxSteps := 10000000) (disch := first | assumption | omega) only [F_spec_GateOk, params, EG, EL, ↓reduceIte, Nat.reduceEqDiff, Nat.reduceAdd, Nat.reduceSub, Nat.reduceMul, Nat.reduceLeDiff, Nat.reduceLT, Int.reduceLT, Int.reduceLE, Int.reduceEq, Int.reduceToNat, reduceCtorEq, FB, cx_spec_GateOk, cl_spec_l01In, sem_spec_l01In]
  by_cases h1 : -1 ≤ x.Owner ∧ x.Owner ≤ 3
  · by_cases h2 : x.Queues.length ≤ 2
    · have h2' : ¬ (2 : Int) < (x.Queues.length : Int) := by omega
      by_cases h3 : x.Owner < 0
      · have h3' : ¬ 0 ≤ x.Owner := by omega
        by_cases h4 : 0 < x.Waits.length
        · have h4' : (0 : Int) < (x.Waits.length : Int) := by omega
          simp only [h1, h2, h2', h3, h4, h4', EG, EL, ↓reduceIte, Nat.reduceEqDiff, Nat.reduceAdd, Nat.reduceSub, Nat.reduceMul, Nat.reduceLeDiff, Nat.reduceLT, Int.reduceLT, Int.reduceLE, Int.reduceEq, Int.reduceToNat, reduceCtorEq, FB, decide_true, Bool.not_true, Bool.false_and]
        · have h4' : ¬ (0 : Int) < (x.Waits.length : Int) := by omega
          have l0 := loop0 [] (by simp)
          have l1 := loop1 ([] ++ x.Waits) (by simp)
          simp only [EG, EL, ↓reduceIte, Nat.reduceEqDiff, Nat.reduceAdd, Nat.reduceSub, Nat.reduceMul, Nat.reduceLeDiff, Nat.reduceLT, Int.reduceLT, Int.reduceLE, Int.reduceEq, Int.reduceToNat, reduceCtorEq, FB] at l0 l1
          simp only [h1, h2, h2', h3, h3', h4, h4', EG, EL, ↓reduceIte, Nat.reduceEqDiff, Nat.reduceAdd, Nat.reduceSub, Nat.reduceMul, Nat.reduceLeDiff, Nat.reduceLT, Int.reduceLT, Int.reduceLE, Int.reduceEq, Int.reduceToNat, reduceCtorEq, FB, decide_true, decide_false, l0, goE_okR]
          cases freshB [] x.Waits <;> simp only [EG, EL, ↓reduceIte, Nat.reduceEqDiff, Nat.reduceAdd, Nat.reduceSub, Nat.reduceMul, Nat.reduceLeDiff, Nat.reduceLT, Int.reduceLT, Int.reduceLE, Int.reduceEq, Int.reduceToNat, reduceCtorEq, FB, l1, goE_okR]
          cases qfreshB x.Waits x.Queues <;> simp only [EG, EL, ↓reduceIte, Nat.reduceEqDiff, Nat.reduceAdd, Nat.reduceSub, Nat.reduceMul, Nat.reduceLeDiff, Nat.reduceLT, Int.reduceLT, Int.reduceLE, Int.reduceEq, Int.reduceToNat, reduceCtorEq, FB]
      · have h3' : 0 ≤ x.Owner := by omega
        have l0 := loop0 [x.Owner] (by simp)
        have l1 := loop1 ([x.Owner] ++ x.Waits) (by simp; omega)
        simp only [EG, EL, ↓reduceIte, Nat.reduceEqDiff, Nat.reduceAdd, Nat.reduceSub, Nat.reduceMul, Nat.reduceLeDiff, Nat.reduceLT, Int.reduceLT, Int.reduceLE, Int.reduceEq, Int.reduceToNat, reduceCtorEq, FB] at l0 l1
        simp only [h1, h2, h2', h3, h3', EG, EL, ↓reduceIte, Nat.reduceEqDiff, Nat.reduceAdd, Nat.reduceSub, Nat.reduceMul, Nat.reduceLeDiff, Nat.reduceLT, Int.reduceLT, Int.reduceLE, Int.reduceEq, Int.reduceToNat, reduceCtorEq, FB, decide_true, decide_false, Bool.false_and, l0, goE_okR]
        cases freshB [x.Owner] x.Waits <;> simp only [EG, EL, ↓reduceIte, Nat.reduceEqDiff, Nat.reduceAdd, Nat.reduceSub, Nat.reduceMul, Nat.reduceLeDiff, Nat.reduceLT, Int.reduceLT, Int.reduceLE, Int.reduceEq, Int.reduceToNat, reduceCtorEq, FB, l1, goE_okR]
        cases qfreshB (x.Owner :: x.Waits) x.Queues <;> simp only [EG, EL, ↓reduceIte, Nat.reduceEqDiff, Nat.reduceAdd, Nat.reduceSub, Nat.reduceMul, Nat.reduceLeDiff, Nat.reduceLT, Int.reduceLT, Int.reduceLE, Int.reduceEq, Int.reduceToNat, reduceCtorEq, FB]
    · have h2' : (2 : Int) < (x.Queues.length : Int) := by omega
      simp only [h1, h2, h2', EG, EL, ↓reduceIte, Nat.reduceEqDiff, Nat.reduceAdd, Nat.reduceSub, Nat.reduceMul, Nat.reduceLeDiff, Nat.reduceLT, Int.reduceLT, Int.reduceLE, Int.reduceEq, Int.reduceToNat, reduceCtorEq, FB, decide_true, decide_false, Bool.false_and]
  · simp only [h1, EG, EL, ↓reduceIte, Nat.reduceEqDiff, Nat.reduceAdd, Nat.reduceSub, Nat.reduceMul, Nat.reduceLeDiff, Nat.reduceLT, Int.reduceLT, Int.reduceLE, Int.reduceEq, Int.reduceToNat, reduceCtorEq, FB, decide_false, Bool.false_and]
theorem sem_impl_inGate (x : DGate) (h : x.Waits.length + x.Queues.length ≤ 1099511627776) : S_impl_inGate.sem [.agg (cGate x)] = some (.tree 1 ((inGate x.Owner x.Waits x.Queues).map cI), []) := by
  have loop : ∀ all : List Int, all.length ≤ 1 + x.Waits.length → loopV X_impl_inGate 0 [3, 19, 20, 21] [(1, [3])] B0_impl_inGate ⟨[(3, .sl ⟨0, none, 0⟩ 1 0 all.length), (19, .tree 1 (x.Queues.map cI)), (20, .int .i64 x.Queues.length), (21, .int .i64 0)], [some ⟨false, 0, 1, all.map cI⟩]⟩ = some (.exit 0, ⟨[(3, .sl ⟨0, none, 0⟩ 1 0 (all ++ somebody x.Queues).length)], [some ⟨false, 0, 1, (all ++ somebody x.Queues).map cI⟩]⟩) := by
    intro all hall
    refine loop_list x.Queues (fun i (a : List Int) => a.length ≤ 1 + x.Waits.length + i) (fun i a => ⟨[(3, .sl ⟨0, none, 0⟩ 1 0 a.length), (19, .tree 1 (x.Queues.map cI)), (20, .int .i64 x.Queues.length), (21, .int .i64 ((i : Nat) : Int))], [some ⟨false, 0, 1, a.map cI⟩]⟩) (fun rest a => some (.exit 0, ⟨[(3, .sl ⟨0, none, 0⟩ 1 0 (a ++ somebody rest).length)], [some ⟨false, 0, 1, (a ++ somebody rest).map cI⟩]⟩)) ?_ ?_ all hall
    · intro a _
      rw [loopV_by B0_impl_inGate.eq_1]
      simp only [EG, EL, ↓reduceIte, Nat.reduceEqDiff, Nat.reduceAdd, Nat.reduceSub, Nat.reduceMul, Nat.reduceLeDiff, Nat.reduceLT, Int.reduceLT, Int.reduceLE, Int.reduceEq, Int.reduceToNat, reduceCtorEq, FB, int_lt_irrefl, somebody, List.filter_nil]
    · rintro i hi0 y rest a rfl rfl ha ih
      have hi : (i : Int) < (x.Queues.length : Int) := by omega
      have hc : (a.length + 1) * 8 ≤ 70368744177664 := by omega
      have i1 := ih (a ++ [x.Queues[i]]) (by simp; omega)
      have i2 := ih a (by omega)
      simp only [EG, EL, ↓reduceIte, Nat.reduceEqDiff, Nat.reduceAdd, Nat.reduceSub, Nat.reduceMul, Nat.reduceLeDiff, Nat.reduceLT, Int.reduceLT, Int.reduceLE, Int.reduceEq, Int.reduceToNat, reduceCtorEq, FB, List.append_assoc] at i1 i2
      rw [loopV_by B0_impl_inGate.eq_1]
      simp (disch := first | assumption | omega) only [EG, EL, ↓reduceIte, Nat.reduceEqDiff, Nat.reduceAdd, Nat.reduceSub, Nat.reduceMul, Nat.reduceLeDiff, Nat.reduceLT, Int.reduceLT, Int.reduceLE, Int.reduceEq, Int.reduceToNat, reduceCtorEq, FB, hi, wrap_succ, getRow _ _ hi0, hc, map_cI_snoc]
      by_cases h0 : x.Queues[i] = -1
      · simp only [h0, EG, EL, ↓reduceIte, Nat.reduceEqDiff, Nat.reduceAdd, Nat.reduceSub, Nat.reduceMul, Nat.reduceLeDiff, Nat.reduceLT, Int.reduceLT, Int.reduceLE, Int.reduceEq, Int.reduceToNat, reduceCtorEq, FB] at i2 ⊢
        simp only [i2, somebody, List.filter_cons, ne_eq, not_true_eq_false, decide_false, Bool.false_eq_true, if_false]
      · simp only [h0, EG, EL, ↓reduceIte, Nat.reduceEqDiff, Nat.reduceAdd, Nat.reduceSub, Nat.reduceMul, Nat.reduceLeDiff, Nat.reduceLT, Int.reduceLT, Int.reduceLE, Int.reduceEq, Int.reduceToNat, reduceCtorEq, FB, i1, somebody, List.filter_cons, ne_eq, not_false_eq_true, decide_true]
  rw [sg_impl_inGate, sem_go]
  have c1 : (1 + x.Waits.length) * 8 ≤ 70368744177664 := by omega
  have c2 : x.Waits.length * 8 ≤ 70368744177664 := by omega
  by_cases ho : x.Owner = -1
  · have l := loop x.Waits (by omega)
    simp only [EG, EL, ↓reduceIte, Nat.reduceEqDiff, Nat.reduceAdd, Nat.reduceSub, Nat.reduceMul, Nat.reduceLeDiff, Nat.reduceLT, Int.reduceLT, Int.reduceLE, Int.reduceEq, Int.reduceToNat, reduceCtorEq, FB] at l
    simp (disch := first | assumption | omega) only [F_impl_inGate, params, EG, EL, ↓reduceIte, Nat.reduceEqDiff, Nat.reduceAdd, Nat.reduceSub, Nat.reduceMul, Nat.reduceLeDiff, Nat.reduceLT, Int.reduceLT, Int.reduceLE, Int.reduceEq, Int.reduceToNat, reduceCtorEq, FB, cx_impl_inGate, ho, c2, l, inGate]
  · have l := loop ([x.Owner] ++ x.Waits) (by simp; omega)
    simp only [EG, EL, ↓reduceIte, Nat.reduceEqDiff, Nat.reduceAdd, Nat.reduceSub, Nat.reduceMul, Nat.reduceLeDiff, Nat.reduceLT, Int.reduceLT, Int.reduceLE, Int.reduceEq, Int.reduceToNat, reduceCtorEq, FB] at l
    simp (disch := first | assumption | omega) only [F_impl_inGate, params, EG, EL, ↓reduceIte, Nat.reduceEqDiff, Nat.reduceAdd, Nat.reduceSub, Nat.reduceMul, Nat.reduceLeDiff, Nat.reduceLT, Int.reduceLT, Int.reduceLE, Int.reduceEq, Int.reduceToNat, reduceCtorEq, FB, cx_impl_inGate, ho, c1, Nat.add_comm, l, inGate]
    rw [if_pos (by omega)]
theorem sem_impl_GateOk (x : DGate) (h : x.Waits.length + x.Queues.length ≤ 1099511627776) : S_impl_GateOk.sem [.agg (cGate x)] = some (.bool (gateOk x.Owner x.Waits x.Queues), []) := by
  have hlen := inGate_len x.Owner x.Waits x.Queues
  have hg : gateOk x.Owner x.Waits x.Queues = (freshB [] (inGate x.Owner x.Waits x.Queues) && (decide (x.Queues.length ≤ 2) && decide (x.Owner ≠ -1 ∨ x.Waits.length = 0))) := by
    unfold gateOk inGate
    cases freshB [] ((if x.Owner = -1 then [] else [x.Owner]) ++ x.Waits ++ somebody x.Queues) <;> simp
  rw [hg]
  generalize hall : inGate x.Owner x.Waits x.Queues = all at hlen
  have loop : loopV X_impl_GateOk 0 [1, 3, 8, 9, 10] [(1, [1]), (0, [2])] B0_impl_GateOk ⟨[(1, .ptr ⟨0, none, 0⟩ 3 0 0), (3, .sl ⟨1, none, 0⟩ 1 0 all.length), (8, .sl ⟨1, none, 0⟩ 1 0 all.length), (9, .int .i64 all.length), (10, .int .i64 0)], [some ⟨true, 0, 3, [cGate x]⟩, some ⟨false, 0, 1, all.map cI⟩]⟩ = okR (freshB [] all) 0 ⟨[(1, .ptr ⟨0, none, 0⟩ 3 0 0)], [some ⟨true, 0, 3, [cGate x]⟩]⟩ 2 := by
    refine loop_list all (fun i (a : List Int) => a = all.take i) (fun i a => ⟨[(1, .ptr ⟨0, none, 0⟩ 3 0 0), (3, .sl ⟨1, none, 0⟩ 1 0 all.length), (8, .sl ⟨1, none, 0⟩ 1 0 all.length), (9, .int .i64 all.length), (10, .int .i64 ((i : Nat) : Int))], [some ⟨true, 0, 3, [cGate x]⟩, some ⟨false, 0, 1, all.map cI⟩]⟩) (fun rest a => okR (freshB a rest) 0 ⟨[(1, .ptr ⟨0, none, 0⟩ 3 0 0)], [some ⟨true, 0, 3, [cGate x]⟩]⟩ 2) ?_ ?_ [] (by simp)
    · rintro a rfl
      rw [loopV_by B0_impl_GateOk.eq_1]
      simp only [EG, EL, ↓reduceIte, Nat.reduceEqDiff, Nat.reduceAdd, Nat.reduceSub, Nat.reduceMul, Nat.reduceLeDiff, Nat.reduceLT, Int.reduceLT, Int.reduceLE, Int.reduceEq, Int.reduceToNat, reduceCtorEq, FB, int_lt_irrefl, freshB, okR_true]
    · rintro i hi0 y rest a rfl rfl rfl ih
      have hi : (i : Int) < (all.length : Int) := by omega
      have hi1 : (i : Int) ≤ (all.length : Int) := by omega
      have hm : (all.take i).length = i := by rw [List.length_take]; omega
      have hm2 : (all.take i).length ≤ 140737488351232 := by omega
      have i1 := ih (all.take i ++ [all[i]]) (by rw [List.take_succ_eq_append_getElem hi0])
      rw [loopV_by B0_impl_GateOk.eq_1]
      simp (disch := first | assumption | omega) only [EG, EL, ↓reduceIte, Nat.reduceEqDiff, Nat.reduceAdd, Nat.reduceSub, Nat.reduceMul, Nat.reduceLeDiff, Nat.reduceLT, Int.reduceLT, Int.reduceLE, Int.reduceEq, Int.reduceToNat, reduceCtorEq, FB, hi, hi0, hi1, hm, wrap_succ, getRow _ _ hi0, cx_impl_GateOk, cl_impl_within, sem_impl_within, seg_take, cl_slices_Contains_int_int, sem_slices_Contains_int_int, Nat.sub_zero]
      by_cases h1 : 0 ≤ all[i] ∧ all[i] ≤ 3
      · by_cases h2 : all[i] ∈ all.take i
        · simp only [h1, h2, EG, EL, ↓reduceIte, Nat.reduceEqDiff, Nat.reduceAdd, Nat.reduceSub, Nat.reduceMul, Nat.reduceLeDiff, Nat.reduceLT, Int.reduceLT, Int.reduceLE, Int.reduceEq, Int.reduceToNat, reduceCtorEq, FB, freshB, not_true_eq_false, okR_false, decide_true, decide_false]
        · simp only [h1, h2, EG, EL, ↓reduceIte, Nat.reduceEqDiff, Nat.reduceAdd, Nat.reduceSub, Nat.reduceMul, Nat.reduceLeDiff, Nat.reduceLT, Int.reduceLT, Int.reduceLE, Int.reduceEq, Int.reduceToNat, reduceCtorEq, FB, freshB, i1, not_false_eq_true, decide_true]
      · simp only [h1, EG, EL, ↓reduceIte, Nat.reduceEqDiff, Nat.reduceAdd, Nat.reduceSub, Nat.reduceMul, Nat.reduceLeDiff, Nat.reduceLT, Int.reduceLT, Int.reduceLE, Int.reduceEq, Int.reduceToNat, reduceCtorEq, FB, freshB, okR_false, decide_false]
  rw [sg_impl_GateOk, sem_go]
  simp (disch := first | assumption | omega) only [F_impl_GateOk, params, EG, EL, ↓reduceIte, Nat.reduceEqDiff, Nat.reduceAdd, Nat.reduceSub, Nat.reduceMul, Nat.reduceLeDiff, Nat.reduceLT, Int.reduceLT, Int.reduceLE, Int.reduceEq, Int.reduceToNat, reduceCtorEq, FB, cx_impl_GateOk, cl_impl_inGate, sem_impl_inGate, hall, loop, goE_okR]
  cases freshB [] all
  · simp only [EG, EL, ↓reduceIte, Nat.reduceEqDiff, Nat.reduceAdd, Nat.reduceSub, Nat.reduceMul, Nat.reduceLeDiff, Nat.reduceLT, Int.reduceLT, Int.reduceLE, Int.reduceEq, Int.reduceToNat, reduceCtorEq, FB]
  · by_cases h1 : x.Queues.length ≤ 2
    · have h1' : (x.Queues.length : Int) ≤ 2 := by omega
      by_cases h2 : x.Owner = -1
      · by_cases h3 : x.Waits.length = 0
        · have h3' : (x.Waits.length : Int) = 0 := by omega
          simp only [h1, h1', h2, h3, h3', EG, EL, ↓reduceIte, Nat.reduceEqDiff, Nat.reduceAdd, Nat.reduceSub, Nat.reduceMul, Nat.reduceLeDiff, Nat.reduceLT, Int.reduceLT, Int.reduceLE, Int.reduceEq, Int.reduceToNat, reduceCtorEq, FB, not_true_eq_false, false_or, decide_true]
        · have h3' : ¬ (x.Waits.length : Int) = 0 := by omega
          simp only [h1, h1', h2, h3, h3', EG, EL, ↓reduceIte, Nat.reduceEqDiff, Nat.reduceAdd, Nat.reduceSub, Nat.reduceMul, Nat.reduceLeDiff, Nat.reduceLT, Int.reduceLT, Int.reduceLE, Int.reduceEq, Int.reduceToNat, reduceCtorEq, FB, not_true_eq_false, false_or, decide_true, decide_false]
      · simp only [h1, h1', h2, EG, EL, ↓reduceIte, Nat.reduceEqDiff, Nat.reduceAdd, Nat.reduceSub, Nat.reduceMul, Nat.reduceLeDiff, Nat.reduceLT, Int.reduceLT, Int.reduceLE, Int.reduceEq, Int.reduceToNat, reduceCtorEq, FB, not_false_eq_true, true_or, decide_true]
    · have h1' : ¬ (x.Queues.length : Int) ≤ 2 := by omega
      simp only [h1, h1', EG, EL, ↓reduceIte, Nat.reduceEqDiff, Nat.reduceAdd, Nat.reduceSub, Nat.reduceMul, Nat.reduceLeDiff, Nat.reduceLT, Int.reduceLT, Int.reduceLE, Int.reduceEq, Int.reduceToNat, reduceCtorEq, FB, decide_false]
def nextG (x : DGate) : DGate := match x.Waits with | [] => { x with Owner := -1 } | w :: ws => { x with Owner := w, Waits := ws }
def leaveG (x : DGate) : DGate × Int := if gateOk x.Owner x.Waits x.Queues = true ∧ x.Owner ≠ -1 then (nextG x, (nextG x).Owner) else (x, -1)
theorem gateOk_range {o : Int} {w q : List Int} (h : gateOk o w q = true) : -1 ≤ o ∧ o ≤ 3 := by
  by_cases h1 : -1 ≤ o ∧ o ≤ 3
  · exact h1
  · rw [gateOk_low h1] at h; cases h
theorem sem_spec_Leave (x : DGate) (h : x.Waits.length + x.Queues.length ≤ 1099511627776) : S_spec_Leave.sem [.agg (cGate x)] = some (.tup [.agg (cGate (leaveG x).1), .int .i64 (leaveG x).2], []) := by
  rw [sg_spec_Leave, sem_go]
  have hc := sem_spec_l12Copy x h
  have hk := sem_spec_GateOk x h
  obtain ⟨o, w, q⟩ := x
  simp only at h hc hk
  cases hg : gateOk o w q
  · simp (disch := first | assumption | omega) only [cGate, F_spec_Leave, params, EG, EL, ↓reduceIte, Nat.reduceEqDiff, Nat.reduceAdd, Nat.reduceSub, Nat.reduceMul, Nat.reduceLeDiff, Nat.reduceLT, Int.reduceLT, Int.reduceLE, Int.reduceEq, Int.reduceToNat, reduceCtorEq, FB, cx_spec_Leave, cl_spec_l12Copy, hc, cl_spec_GateOk, hk, hg, leaveG, false_and]
  · have hr := gateOk_range hg
    by_cases ho : o = -1
    · subst ho
      simp (disch := first | assumption | omega) only [cGate, F_spec_Leave, params, EG, EL, ↓reduceIte, Nat.reduceEqDiff, Nat.reduceAdd, Nat.reduceSub, Nat.reduceMul, Nat.reduceLeDiff, Nat.reduceLT, Int.reduceLT, Int.reduceLE, Int.reduceEq, Int.reduceToNat, reduceCtorEq, FB, cx_spec_Leave, cl_spec_l12Copy, hc, cl_spec_GateOk, hk, hg, leaveG]
    · have ho' : ¬ o < 0 := by omega
      cases w with
      | nil =>
        simp only [cGate, List.map_nil] at hc hk
        simp (disch := first | assumption | omega) only [cGate, F_spec_Leave, params, EG, EL, ↓reduceIte, Nat.reduceEqDiff, Nat.reduceAdd, Nat.reduceSub, Nat.reduceMul, Nat.reduceLeDiff, Nat.reduceLT, Int.reduceLT, Int.reduceLE, Int.reduceEq, Int.reduceToNat, reduceCtorEq, FB, cx_spec_Leave, cl_spec_l12Copy, hc, cl_spec_GateOk, hk, hg, leaveG, nextG, ho, ho', cl_spec_l12Next, run_goF, F_spec_l12Next, cx_spec_l12Next]
      | cons y ys =>
        simp only [List.length_cons] at h
        simp only [cGate, List.map_cons] at hc hk
        have h1 : (0 : Int) < ((ys.length + 1 : Nat) : Int) := by omega
        have h2 : (1 : Int) ≤ ((ys.length + 1 : Nat) : Int) := by omega
        have h3 : ys.length * 8 ≤ 70368744177664 := by omega
        simp (disch := first | assumption | omega) only [cGate, F_spec_Leave, params, EG, EL, ↓reduceIte, Nat.reduceEqDiff, Nat.reduceAdd, Nat.reduceSub, Nat.reduceMul, Nat.reduceLeDiff, Nat.reduceLT, Int.reduceLT, Int.reduceLE, Int.reduceEq, Int.reduceToNat, reduceCtorEq, FB, cx_spec_Leave, cl_spec_l12Copy, hc, cl_spec_GateOk, hk, hg, leaveG, nextG, ho, ho', cl_spec_l12Next, run_goF, F_spec_l12Next, cx_spec_l12Next, h1, h2, h3]
theorem sem_impl_Leave (x : DGate) (h : x.Waits.length + x.Queues.length ≤ 1099511627776) : S_impl_Leave.sem [.agg (cGate x)] = some (.tup [.agg (cGate (leaveG x).1), .int .i64 (leaveG x).2], []) := by
  rw [sg_impl_Leave, sem_go]
  have hc := sem_impl_copyGate x h
  have hk := sem_impl_GateOk x h
  obtain ⟨o, w, q⟩ := x
  simp only at h hc hk
  cases hg : gateOk o w q
  · simp (disch := first | assumption | omega) only [cGate, F_impl_Leave, params, EG, EL, ↓reduceIte, Nat.reduceEqDiff, Nat.reduceAdd, Nat.reduceSub, Nat.reduceMul, Nat.reduceLeDiff, Nat.reduceLT, Int.reduceLT, Int.reduceLE, Int.reduceEq, Int.reduceToNat, reduceCtorEq, FB, cx_impl_Leave, cl_impl_copyGate, hc, cl_impl_GateOk, hk, hg, leaveG, false_and]
  · have hr := gateOk_range hg
    by_cases ho : o = -1
    · subst ho
      simp (disch := first | assumption | omega) only [cGate, F_impl_Leave, params, EG, EL, ↓reduceIte, Nat.reduceEqDiff, Nat.reduceAdd, Nat.reduceSub, Nat.reduceMul, Nat.reduceLeDiff, Nat.reduceLT, Int.reduceLT, Int.reduceLE, Int.reduceEq, Int.reduceToNat, reduceCtorEq, FB, cx_impl_Leave, cl_impl_copyGate, hc, cl_impl_GateOk, hk, hg, leaveG]
    · cases w with
      | nil =>
        simp only [cGate, List.map_nil] at hc hk
        simp (disch := first | assumption | omega) only [cGate, F_impl_Leave, params, EG, EL, ↓reduceIte, Nat.reduceEqDiff, Nat.reduceAdd, Nat.reduceSub, Nat.reduceMul, Nat.reduceLeDiff, Nat.reduceLT, Int.reduceLT, Int.reduceLE, Int.reduceEq, Int.reduceToNat, reduceCtorEq, FB, ED, cx_impl_Leave, cl_impl_copyGate, hc, cl_impl_GateOk, hk, hg, leaveG, nextG, ho]
      | cons y ys =>
        simp only [List.length_cons] at h
        simp only [cGate, List.map_cons] at hc hk
        have h1 : (0 : Int) < ((ys.length + 1 : Nat) : Int) := by omega
        have h2 : (1 : Int) ≤ ((ys.length + 1 : Nat) : Int) := by omega
        have h3 : ys.length * 8 ≤ 70368744177664 := by omega
        have h4 : 1 + ys.length ≤ ys.length + 1 := by omega
        simp (disch := first | assumption | omega) only [h4, cGate, F_impl_Leave, params, EG, EL, ↓reduceIte, Nat.reduceEqDiff, Nat.reduceAdd, Nat.reduceSub, Nat.reduceMul, Nat.reduceLeDiff, Nat.reduceLT, Int.reduceLT, Int.reduceLE, Int.reduceEq, Int.reduceToNat, reduceCtorEq, FB, ED, cx_impl_Leave, cl_impl_copyGate, hc, cl_impl_GateOk, hk, hg, leaveG, nextG, ho, h1, h2, h3]
def delayG (x : DGate) (q : Int) : DGate × Int × Bool := if gateOk x.Owner x.Waits x.Queues = true ∧ x.Owner ≠ -1 ∧ (0 ≤ q ∧ q ≤ (x.Queues.length : Int) - 1) ∧ x.Queues.getD q.toNat 0 = -1 then ({ nextG x with Queues := x.Queues.set q.toNat x.Owner }, (nextG x).Owner, true) else (x, -1, false)
def contG (x : DGate) (q : Int) : DGate × Int := if gateOk x.Owner x.Waits x.Queues = true ∧ x.Owner ≠ -1 ∧ (0 ≤ q ∧ q ≤ (x.Queues.length : Int) - 1) then (if x.Queues.getD q.toNat 0 = -1 then (nextG x, (nextG x).Owner) else ({ x with Owner := x.Queues.getD q.toNat 0, Queues := x.Queues.set q.toNat (-1) }, x.Queues.getD q.toNat 0)) else (x, -1)
theorem gateOk_queue {o : Int} {w q : List Int} (h : gateOk o w q = true) {i : Nat} (hi : i < q.length) : q[i] = -1 ∨ (0 ≤ q[i] ∧ q[i] ≤ 3) := by
  unfold gateOk at h
  simp only [Bool.and_eq_true] at h
  by_cases h1 : q[i] = -1
  · exact .inl h1
  · right
    refine freshB_mem _ _ h.2.1 _ ?_
    simp only [List.mem_append]
    right
    unfold somebody
    rw [List.mem_filter]
    exact ⟨List.getElem_mem hi, by simpa using h1⟩
theorem sem_spec_DelayIn (x : DGate) (h : x.Waits.length + x.Queues.length ≤ 1099511627776) (q : Int) : S_spec_DelayIn.sem [.agg (cGate x), .int .i64 q] = some (.tup [.agg (cGate (delayG x q).1), .int .i64 (delayG x q).2.1, .bool (delayG x q).2.2], []) := by
  rw [sg_spec_DelayIn, sem_go]
  have hc := sem_spec_l12Copy x h
  have hk := sem_spec_GateOk x h
  skip
  obtain ⟨o, w, qs⟩ := x
  simp only at h hc hk
  cases hg : gateOk o w qs
  · simp (disch := first | assumption | omega) only [cGate, F_spec_DelayIn, params, EG, EL, ↓reduceIte, Nat.reduceEqDiff, Nat.reduceAdd, Nat.reduceSub, Nat.reduceMul, Nat.reduceLeDiff, Nat.reduceLT, Int.reduceLT, Int.reduceLE, Int.reduceEq, Int.reduceToNat, reduceCtorEq, FB, ED, cx_spec_DelayIn, cl_spec_l12Copy, hc, cl_spec_GateOk, hk, hg, cl_spec_l01In, sem_spec_l01In, delayG, wrapI, false_and]
  · have hr := gateOk_range hg
    by_cases ho : o = -1
    · subst ho
      simp (disch := first | assumption | omega) only [cGate, F_spec_DelayIn, params, EG, EL, ↓reduceIte, Nat.reduceEqDiff, Nat.reduceAdd, Nat.reduceSub, Nat.reduceMul, Nat.reduceLeDiff, Nat.reduceLT, Int.reduceLT, Int.reduceLE, Int.reduceEq, Int.reduceToNat, reduceCtorEq, FB, ED, cx_spec_DelayIn, cl_spec_l12Copy, hc, cl_spec_GateOk, hk, hg, cl_spec_l01In, sem_spec_l01In, delayG, wrapI]
    · have ho' : ¬ o < 0 := by omega
      by_cases hq : 0 ≤ q ∧ q ≤ (qs.length : Int) - 1
      · obtain ⟨n, rfl⟩ : ∃ n : Nat, q = (n : Int) := ⟨q.toNat, by omega⟩
        have hn : n < qs.length := by omega
        have hn' : (n : Int) < (qs.length : Int) := by omega
        have hgd : qs.getD n 0 = qs[n] := by simp [List.getD_eq_getElem?_getD, hn]
        have hrng := gateOk_queue hg hn
        by_cases hv : qs[n] = -1
        · have hv' : qs[n] < 0 := by omega
          have hv2 : ¬ 0 ≤ qs[n] := by omega
          cases w with
          | nil =>
            simp only [cGate, List.map_nil] at hc hk
            simp (disch := first | assumption | omega) only [cGate, F_spec_DelayIn, params, EG, EL, ↓reduceIte, Nat.reduceEqDiff, Nat.reduceAdd, Nat.reduceSub, Nat.reduceMul, Nat.reduceLeDiff, Nat.reduceLT, Int.reduceLT, Int.reduceLE, Int.reduceEq, Int.reduceToNat, reduceCtorEq, FB, ED, cx_spec_DelayIn, cl_spec_l12Copy, hc, cl_spec_GateOk, hk, hg, cl_spec_l01In, sem_spec_l01In, delayG, wrapI, ho, ho', hq, hn, hn', hgd, hv, hv', hv2, getRow _ _ hn, nextG, cl_spec_l12Next, run_goF, F_spec_l12Next, cx_spec_l12Next]
          | cons y ys =>
            simp only [List.length_cons] at h
            simp only [cGate, List.map_cons] at hc hk
            have h1 : (0 : Int) < ((ys.length + 1 : Nat) : Int) := by omega
            have h2 : (1 : Int) ≤ ((ys.length + 1 : Nat) : Int) := by omega
            have h3 : ys.length * 8 ≤ 70368744177664 := by omega
            have h4 : 1 + ys.length ≤ ys.length + 1 := by omega
            simp (disch := first | assumption | omega) only [cGate, F_spec_DelayIn, params, EG, EL, ↓reduceIte, Nat.reduceEqDiff, Nat.reduceAdd, Nat.reduceSub, Nat.reduceMul, Nat.reduceLeDiff, Nat.reduceLT, Int.reduceLT, Int.reduceLE, Int.reduceEq, Int.reduceToNat, reduceCtorEq, FB, ED, cx_spec_DelayIn, cl_spec_l12Copy, hc, cl_spec_GateOk, hk, hg, cl_spec_l01In, sem_spec_l01In, delayG, wrapI, ho, ho', hq, hn, hn', hgd, hv, hv', hv2, getRow _ _ hn, nextG, h1, h2, h3, h4, cl_spec_l12Next, run_goF, F_spec_l12Next, cx_spec_l12Next]
        · have hv' : ¬ qs[n] < 0 := by omega
          have hv2 : 0 ≤ qs[n] := by omega
          simp (disch := first | assumption | omega) only [cGate, F_spec_DelayIn, params, EG, EL, ↓reduceIte, Nat.reduceEqDiff, Nat.reduceAdd, Nat.reduceSub, Nat.reduceMul, Nat.reduceLeDiff, Nat.reduceLT, Int.reduceLT, Int.reduceLE, Int.reduceEq, Int.reduceToNat, reduceCtorEq, FB, ED, cx_spec_DelayIn, cl_spec_l12Copy, hc, cl_spec_GateOk, hk, hg, cl_spec_l01In, sem_spec_l01In, delayG, wrapI, ho, ho', hq, hn, hn', hgd, hv, hv', hv2, getRow _ _ hn]
      · simp (disch := first | assumption | omega) only [cGate, F_spec_DelayIn, params, EG, EL, ↓reduceIte, Nat.reduceEqDiff, Nat.reduceAdd, Nat.reduceSub, Nat.reduceMul, Nat.reduceLeDiff, Nat.reduceLT, Int.reduceLT, Int.reduceLE, Int.reduceEq, Int.reduceToNat, reduceCtorEq, FB, ED, cx_spec_DelayIn, cl_spec_l12Copy, hc, cl_spec_GateOk, hk, hg, cl_spec_l01In, sem_spec_l01In, delayG, wrapI, ho, ho', hq]
theorem sem_spec_ContinueAt (x : DGate) (h : x.Waits.length + x.Queues.length ≤ 1099511627776) (q : Int) : S_spec_ContinueAt.sem [.agg (cGate x), .int .i64 q] = some (.tup [.agg (cGate (contG x q).1), .int .i64 (contG x q).2], []) := by
  rw [sg_spec_ContinueAt, sem_go]
  have hc := sem_spec_l12Copy x h
  have hk := sem_spec_GateOk x h
  skip
  obtain ⟨o, w, qs⟩ := x
  simp only at h hc hk
  cases hg : gateOk o w qs
  · simp (disch := first | assumption | omega) only [cGate, F_spec_ContinueAt, params, EG, EL, ↓reduceIte, Nat.reduceEqDiff, Nat.reduceAdd, Nat.reduceSub, Nat.reduceMul, Nat.reduceLeDiff, Nat.reduceLT, Int.reduceLT, Int.reduceLE, Int.reduceEq, Int.reduceToNat, reduceCtorEq, FB, ED, cx_spec_ContinueAt, cl_spec_l12Copy, hc, cl_spec_GateOk, hk, hg, cl_spec_l01In, sem_spec_l01In, contG, wrapI, false_and]
  · have hr := gateOk_range hg
    by_cases ho : o = -1
    · subst ho
      simp (disch := first | assumption | omega) only [cGate, F_spec_ContinueAt, params, EG, EL, ↓reduceIte, Nat.reduceEqDiff, Nat.reduceAdd, Nat.reduceSub, Nat.reduceMul, Nat.reduceLeDiff, Nat.reduceLT, Int.reduceLT, Int.reduceLE, Int.reduceEq, Int.reduceToNat, reduceCtorEq, FB, ED, cx_spec_ContinueAt, cl_spec_l12Copy, hc, cl_spec_GateOk, hk, hg, cl_spec_l01In, sem_spec_l01In, contG, wrapI]
    · have ho' : ¬ o < 0 := by omega
      by_cases hq : 0 ≤ q ∧ q ≤ (qs.length : Int) - 1
      · obtain ⟨n, rfl⟩ : ∃ n : Nat, q = (n : Int) := ⟨q.toNat, by omega⟩
        have hn : n < qs.length := by omega
        have hn' : (n : Int) < (qs.length : Int) := by omega
        have hgd : qs.getD n 0 = qs[n] := by simp [List.getD_eq_getElem?_getD, hn]
        have hrng := gateOk_queue hg hn
        by_cases hv : qs[n] = -1
        · have hv' : qs[n] < 0 := by omega
          have hv2 : ¬ 0 ≤ qs[n] := by omega
          cases w with
          | nil =>
            simp only [cGate, List.map_nil] at hc hk
            simp (disch := first | assumption | omega) only [cGate, F_spec_ContinueAt, params, EG, EL, ↓reduceIte, Nat.reduceEqDiff, Nat.reduceAdd, Nat.reduceSub, Nat.reduceMul, Nat.reduceLeDiff, Nat.reduceLT, Int.reduceLT, Int.reduceLE, Int.reduceEq, Int.reduceToNat, reduceCtorEq, FB, ED, cx_spec_ContinueAt, cl_spec_l12Copy, hc, cl_spec_GateOk, hk, hg, cl_spec_l01In, sem_spec_l01In, contG, wrapI, ho, ho', hq, hn, hn', hgd, hv, hv', hv2, getRow _ _ hn, nextG, cl_spec_l12Next, run_goF, F_spec_l12Next, cx_spec_l12Next]
          | cons y ys =>
            simp only [List.length_cons] at h
            simp only [cGate, List.map_cons] at hc hk
            have h1 : (0 : Int) < ((ys.length + 1 : Nat) : Int) := by omega
            have h2 : (1 : Int) ≤ ((ys.length + 1 : Nat) : Int) := by omega
            have h3 : ys.length * 8 ≤ 70368744177664 := by omega
            have h4 : 1 + ys.length ≤ ys.length + 1 := by omega
            simp (disch := first | assumption | omega) only [cGate, F_spec_ContinueAt, params, EG, EL, ↓reduceIte, Nat.reduceEqDiff, Nat.reduceAdd, Nat.reduceSub, Nat.reduceMul, Nat.reduceLeDiff, Nat.reduceLT, Int.reduceLT, Int.reduceLE, Int.reduceEq, Int.reduceToNat, reduceCtorEq, FB, ED, cx_spec_ContinueAt, cl_spec_l12Copy, hc, cl_spec_GateOk, hk, hg, cl_spec_l01In, sem_spec_l01In, contG, wrapI, ho, ho', hq, hn, hn', hgd, hv, hv', hv2, getRow _ _ hn, nextG, h1, h2, h3, h4, cl_spec_l12Next, run_goF, F_spec_l12Next, cx_spec_l12Next]
        · have hv' : ¬ qs[n] < 0 := by omega
          have hv2 : 0 ≤ qs[n] := by omega
          simp (disch := first | assumption | omega) only [cGate, F_spec_ContinueAt, params, EG, EL, ↓reduceIte, Nat.reduceEqDiff, Nat.reduceAdd, Nat.reduceSub, Nat.reduceMul, Nat.reduceLeDiff, Nat.reduceLT, Int.reduceLT, Int.reduceLE, Int.reduceEq, Int.reduceToNat, reduceCtorEq, FB, ED, cx_spec_ContinueAt, cl_spec_l12Copy, hc, cl_spec_GateOk, hk, hg, cl_spec_l01In, sem_spec_l01In, contG, wrapI, ho, ho', hq, hn, hn', hgd, hv, hv', hv2, getRow _ _ hn]
      · simp (disch := first | assumption | omega) only [cGate, F_spec_ContinueAt, params, EG, EL, ↓reduceIte, Nat.reduceEqDiff, Nat.reduceAdd, Nat.reduceSub, Nat.reduceMul, Nat.reduceLeDiff, Nat.reduceLT, Int.reduceLT, Int.reduceLE, Int.reduceEq, Int.reduceToNat, reduceCtorEq, FB, ED, cx_spec_ContinueAt, cl_spec_l12Copy, hc, cl_spec_GateOk, hk, hg, cl_spec_l01In, sem_spec_l01In, contG, wrapI, ho, ho', hq]
def arriveG (x : DGate) (i : Int) : DGate × Bool := if gateOk x.Owner x.Waits x.Queues = true ∧ (0 ≤ i ∧ i ≤ 3) ∧ ¬ (x.Owner = i ∨ i ∈ x.Waits ∨ i ∈ x.Queues) then (if x.Owner = -1 then ({ x with Owner := i }, true) else ({ x with Waits := x.Waits ++ [i] }, false)) else (x, false)
theorem mem_inGate {o : Int} {w q : List Int} {i : Int} (h : 0 ≤ i) : i ∈ inGate o w q ↔ (o = i ∨ i ∈ w ∨ i ∈ q) := by
  have h1 : i ≠ -1 := by omega
  have h2 : ¬ i = -1 := h1
  unfold inGate somebody
  by_cases ho : o = -1
  · subst ho; have h3 : ¬ (-1 : Int) = i := by omega
    simp [h2, h3]
  · simp [ho, h2, eq_comm]
set_option maxHeartbeats 4000000 in
theorem sem_spec_Arrive (x : DGate) (h : x.Waits.length + x.Queues.length ≤ 1048576) (i : Int) : S_spec_Arrive.sem [.agg (cGate x), .int .i64 i] = some (.tup [.agg (cGate (arriveG x i).1), .bool (arriveG x i).2], []) := by
  have hc := sem_spec_l12Copy x (Nat.le_trans h (by omega))
  have hk := sem_spec_GateOk x (Nat.le_trans h (by omega))
  skip
  obtain ⟨o, w, q⟩ := x
  simp only at h hc hk
  have hil : (inGate o w q).length ≤ 140737488351232 := by have := inGate_len o w q; omega
  have hl1 : w.length ≤ 140737488351232 := by omega
  have hl2 : q.length ≤ 140737488351232 := by omega
  have hw1 : (w.length + 1) * 8 ≤ 70368744177664 := by omega
  rw [sg_spec_Arrive, sem_go]
  cases hg : gateOk o w q
  · have e : arriveG ⟨o, w, q⟩ i = (⟨o, w, q⟩, false) := by simp [arriveG, hg]
    simp only [hg] at hk
    simp (maxSteps := 10000000) (disch := first | assumption | omega) only [cGate, F_spec_Arrive, params, EG, EL, ↓reduceIte, Nat.reduceEqDiff, Nat.reduceAdd, Nat.reduceSub, Nat.reduceMul, Nat.reduceLeDiff, Nat.reduceLT, Int.reduceLT, Int.reduceLE, Int.reduceEq, Int.reduceToNat, reduceCtorEq, FB, ED, FT, cx_spec_Arrive, cl_spec_l12Copy, hc, cl_spec_GateOk, hk, cl_spec_l01In, sem_spec_l01In, cl_spec_l12In, sem_spec_l12In, decide_true, decide_false, Bool.not_true, Bool.not_false, e]
  · have hr := gateOk_range hg
    simp only [hg] at hk
    by_cases hi : 0 ≤ i ∧ i ≤ 3
    · by_cases hm : o = i ∨ i ∈ w ∨ i ∈ q
      · have e : arriveG ⟨o, w, q⟩ i = (⟨o, w, q⟩, false) := by simp [arriveG, hm]
        by_cases m1 : o = i
        · simp only [m1] at hc hk e hg ⊢
          simp (maxSteps := 10000000) (disch := first | assumption | omega) only [cGate, F_spec_Arrive, params, EG, EL, ↓reduceIte, Nat.reduceEqDiff, Nat.reduceAdd, Nat.reduceSub, Nat.reduceMul, Nat.reduceLeDiff, Nat.reduceLT, Int.reduceLT, Int.reduceLE, Int.reduceEq, Int.reduceToNat, reduceCtorEq, FB, ED, FT, cx_spec_Arrive, cl_spec_l12Copy, hc, cl_spec_GateOk, hk, cl_spec_l01In, sem_spec_l01In, cl_spec_l12In, sem_spec_l12In, decide_true, decide_false, Bool.not_true, Bool.not_false, e, hi, and_self]
        · by_cases m2 : i ∈ w
          · simp (maxSteps := 10000000) (disch := first | assumption | omega) only [cGate, F_spec_Arrive, params, EG, EL, ↓reduceIte, Nat.reduceEqDiff, Nat.reduceAdd, Nat.reduceSub, Nat.reduceMul, Nat.reduceLeDiff, Nat.reduceLT, Int.reduceLT, Int.reduceLE, Int.reduceEq, Int.reduceToNat, reduceCtorEq, FB, ED, FT, cx_spec_Arrive, cl_spec_l12Copy, hc, cl_spec_GateOk, hk, cl_spec_l01In, sem_spec_l01In, cl_spec_l12In, sem_spec_l12In, decide_true, decide_false, Bool.not_true, Bool.not_false, e, hi, m1, m2, and_self]
          · have m3 : i ∈ q := by rcases hm with h | h | h <;> first | exact absurd h m1 | exact absurd h m2 | exact h
            simp (maxSteps := 10000000) (disch := first | assumption | omega) only [cGate, F_spec_Arrive, params, EG, EL, ↓reduceIte, Nat.reduceEqDiff, Nat.reduceAdd, Nat.reduceSub, Nat.reduceMul, Nat.reduceLeDiff, Nat.reduceLT, Int.reduceLT, Int.reduceLE, Int.reduceEq, Int.reduceToNat, reduceCtorEq, FB, ED, FT, cx_spec_Arrive, cl_spec_l12Copy, hc, cl_spec_GateOk, hk, cl_spec_l01In, sem_spec_l01In, cl_spec_l12In, sem_spec_l12In, decide_true, decide_false, Bool.not_true, Bool.not_false, e, hi, m1, m2, m3, and_self]
      · have e : arriveG ⟨o, w, q⟩ i = if o = -1 then (⟨i, w, q⟩, true) else (⟨o, w ++ [i], q⟩, false) := by unfold arriveG; rw [if_pos ⟨hg, hi, hm⟩]
        have m1 : ¬ o = i := fun h => hm (Or.inl h)
        have m2 : i ∉ w := fun h => hm (Or.inr (Or.inl h))
        have m3 : i ∉ q := fun h => hm (Or.inr (Or.inr h))
        have hmg : i ∉ inGate o w q := fun h => hm ((mem_inGate hi.1).1 h)
        rw [e]
        by_cases ho : o = -1
        · subst ho
          have ho' : (-1 : Int) < 0 := by omega
          simp (maxSteps := 10000000) (disch := first | assumption | omega) only [cGate, F_spec_Arrive, params, EG, EL, ↓reduceIte, Nat.reduceEqDiff, Nat.reduceAdd, Nat.reduceSub, Nat.reduceMul, Nat.reduceLeDiff, Nat.reduceLT, Int.reduceLT, Int.reduceLE, Int.reduceEq, Int.reduceToNat, reduceCtorEq, FB, ED, FT, cx_spec_Arrive, cl_spec_l12Copy, hc, cl_spec_GateOk, hk, cl_spec_l01In, sem_spec_l01In, cl_spec_l12In, sem_spec_l12In, decide_true, decide_false, Bool.not_true, Bool.not_false, hi, m1, m2, m3, hmg, ho', and_self]
        · have ho' : ¬ o < 0 := by omega
          simp (maxSteps := 10000000) (disch := first | assumption | omega) only [cGate, F_spec_Arrive, params, EG, EL, ↓reduceIte, Nat.reduceEqDiff, Nat.reduceAdd, Nat.reduceSub, Nat.reduceMul, Nat.reduceLeDiff, Nat.reduceLT, Int.reduceLT, Int.reduceLE, Int.reduceEq, Int.reduceToNat, reduceCtorEq, FB, ED, FT, cx_spec_Arrive, cl_spec_l12Copy, hc, cl_spec_GateOk, hk, cl_spec_l01In, sem_spec_l01In, cl_spec_l12In, sem_spec_l12In, decide_true, decide_false, Bool.not_true, Bool.not_false, hi, m1, m2, m3, hmg, ho, ho', and_self, hw1, map_cI_snoc]
    · have e : arriveG ⟨o, w, q⟩ i = (⟨o, w, q⟩, false) := by
        unfold arriveG; rw [if_neg (fun h => hi h.2.1)]
      simp (maxSteps := 10000000) (disch := first | assumption | omega) only [cGate, F_spec_Arrive, params, EG, EL, ↓reduceIte, Nat.reduceEqDiff, Nat.reduceAdd, Nat.reduceSub, Nat.reduceMul, Nat.reduceLeDiff, Nat.reduceLT, Int.reduceLT, Int.reduceLE, Int.reduceEq, Int.reduceToNat, reduceCtorEq, FB, ED, FT, cx_spec_Arrive, cl_spec_l12Copy, hc, cl_spec_GateOk, hk, cl_spec_l01In, sem_spec_l01In, cl_spec_l12In, sem_spec_l12In, decide_true, decide_false, Bool.not_true, Bool.not_false, e, hi]
set_option maxHeartbeats 4000000 in
theorem sem_impl_Arrive (x : DGate) (h : x.Waits.length + x.Queues.length ≤ 1048576) (i : Int) : S_impl_Arrive.sem [.agg (cGate x), .int .i64 i] = some (.tup [.agg (cGate (arriveG x i).1), .bool (arriveG x i).2], []) := by
  have hc := sem_impl_copyGate x (Nat.le_trans h (by omega))
  have hk := sem_impl_GateOk x (Nat.le_trans h (by omega))
  have hig := sem_impl_inGate x (Nat.le_trans h (by omega))
  obtain ⟨o, w, q⟩ := x
  simp only at h hc hk
  have hil : (inGate o w q).length ≤ 140737488351232 := by have := inGate_len o w q; omega
  have hl1 : w.length ≤ 140737488351232 := by omega
  have hl2 : q.length ≤ 140737488351232 := by omega
  have hw1 : (w.length + 1) * 8 ≤ 70368744177664 := by omega
  rw [sg_impl_Arrive, sem_go]
  cases hg : gateOk o w q
  · have e : arriveG ⟨o, w, q⟩ i = (⟨o, w, q⟩, false) := by simp [arriveG, hg]
    simp only [hg] at hk
    simp (maxSteps := 10000000) (disch := first | assumption | omega) only [cGate, F_impl_Arrive, params, EG, EL, ↓reduceIte, Nat.reduceEqDiff, Nat.reduceAdd, Nat.reduceSub, Nat.reduceMul, Nat.reduceLeDiff, Nat.reduceLT, Int.reduceLT, Int.reduceLE, Int.reduceEq, Int.reduceToNat, reduceCtorEq, FB, ED, FT, cx_impl_Arrive, cl_impl_copyGate, hc, cl_impl_GateOk, hk, cl_impl_within, sem_impl_within, cl_impl_inGate, hig, cl_slices_Contains_int_int, sem_slices_Contains_int_int, decide_true, decide_false, Bool.not_true, Bool.not_false, e]
  · have hr := gateOk_range hg
    simp only [hg] at hk
    by_cases hi : 0 ≤ i ∧ i ≤ 3
    · by_cases hm : o = i ∨ i ∈ w ∨ i ∈ q
      · have e : arriveG ⟨o, w, q⟩ i = (⟨o, w, q⟩, false) := by simp [arriveG, hm]
        have hmg : i ∈ inGate o w q := (mem_inGate hi.1).2 hm
        simp (maxSteps := 10000000) (disch := first | assumption | omega) only [cGate, F_impl_Arrive, params, EG, EL, ↓reduceIte, Nat.reduceEqDiff, Nat.reduceAdd, Nat.reduceSub, Nat.reduceMul, Nat.reduceLeDiff, Nat.reduceLT, Int.reduceLT, Int.reduceLE, Int.reduceEq, Int.reduceToNat, reduceCtorEq, FB, ED, FT, cx_impl_Arrive, cl_impl_copyGate, hc, cl_impl_GateOk, hk, cl_impl_within, sem_impl_within, cl_impl_inGate, hig, cl_slices_Contains_int_int, sem_slices_Contains_int_int, decide_true, decide_false, Bool.not_true, Bool.not_false, e, hi, hmg, and_self]
      · have e : arriveG ⟨o, w, q⟩ i = if o = -1 then (⟨i, w, q⟩, true) else (⟨o, w ++ [i], q⟩, false) := by unfold arriveG; rw [if_pos ⟨hg, hi, hm⟩]
        have m1 : ¬ o = i := fun h => hm (Or.inl h)
        have m2 : i ∉ w := fun h => hm (Or.inr (Or.inl h))
        have m3 : i ∉ q := fun h => hm (Or.inr (Or.inr h))
        have hmg : i ∉ inGate o w q := fun h => hm ((mem_inGate hi.1).1 h)
        rw [e]
        by_cases ho : o = -1
        · subst ho
          have ho' : (-1 : Int) < 0 := by omega
          simp (maxSteps := 10000000) (disch := first | assumption | omega) only [cGate, F_impl_Arrive, params, EG, EL, ↓reduceIte, Nat.reduceEqDiff, Nat.reduceAdd, Nat.reduceSub, Nat.reduceMul, Nat.reduceLeDiff, Nat.reduceLT, Int.reduceLT, Int.reduceLE, Int.reduceEq, Int.reduceToNat, reduceCtorEq, FB, ED, FT, cx_impl_Arrive, cl_impl_copyGate, hc, cl_impl_GateOk, hk, cl_impl_within, sem_impl_within, cl_impl_inGate, hig, cl_slices_Contains_int_int, sem_slices_Contains_int_int, decide_true, decide_false, Bool.not_true, Bool.not_false, hi, m1, m2, m3, hmg, ho', and_self]
        · have ho' : ¬ o < 0 := by omega
          simp (maxSteps := 10000000) (disch := first | assumption | omega) only [cGate, F_impl_Arrive, params, EG, EL, ↓reduceIte, Nat.reduceEqDiff, Nat.reduceAdd, Nat.reduceSub, Nat.reduceMul, Nat.reduceLeDiff, Nat.reduceLT, Int.reduceLT, Int.reduceLE, Int.reduceEq, Int.reduceToNat, reduceCtorEq, FB, ED, FT, cx_impl_Arrive, cl_impl_copyGate, hc, cl_impl_GateOk, hk, cl_impl_within, sem_impl_within, cl_impl_inGate, hig, cl_slices_Contains_int_int, sem_slices_Contains_int_int, decide_true, decide_false, Bool.not_true, Bool.not_false, hi, m1, m2, m3, hmg, ho, ho', and_self, hw1, map_cI_snoc]
    · have e : arriveG ⟨o, w, q⟩ i = (⟨o, w, q⟩, false) := by
        unfold arriveG; rw [if_neg (fun h => hi h.2.1)]
      simp (maxSteps := 10000000) (disch := first | assumption | omega) only [cGate, F_impl_Arrive, params, EG, EL, ↓reduceIte, Nat.reduceEqDiff, Nat.reduceAdd, Nat.reduceSub, Nat.reduceMul, Nat.reduceLeDiff, Nat.reduceLT, Int.reduceLT, Int.reduceLE, Int.reduceEq, Int.reduceToNat, reduceCtorEq, FB, ED, FT, cx_impl_Arrive, cl_impl_copyGate, hc, cl_impl_GateOk, hk, cl_impl_within, sem_impl_within, cl_impl_inGate, hig, cl_slices_Contains_int_int, sem_slices_Contains_int_int, decide_true, decide_false, Bool.not_true, Bool.not_false, e, hi]
def gateNew (n : Int) : DGate := ⟨-1, [], if 0 < n then (if 1 < n then [-1, -1] else [-1]) else []⟩
theorem wrap_one : IntKind.wrap .i64 (0 + 1) = 1 := by decide
theorem wrap_two : IntKind.wrap .i64 (1 + 1) = 2 := by decide
theorem min2_0 {n : Int} : (0 < (if 2 < n then 2 else n)) = (0 < n) := by split <;> simp <;> omega
theorem min2_1 {n : Int} : (1 < (if 2 < n then 2 else n)) = (1 < n) := by split <;> simp <;> omega
theorem min2_2 {n : Int} : (2 < (if 2 < n then 2 else n)) = False := by split <;> simp <;> omega
theorem sem_spec_GateNew (n : Int) : S_spec_GateNew.sem [.int .i64 n] = some (.agg (cGate (gateNew n)), []) := by
  rw [sg_spec_GateNew, sem_go]
  by_cases h0 : 0 < n <;> by_cases h1 : 1 < n
  all_goals first | (exfalso; omega) | skip
  all_goals simp (maxSteps := 10000000) (disch := first | assumption | omega) only [F_spec_GateNew, params, EG, EL, ↓reduceIte, Nat.reduceEqDiff, Nat.reduceAdd, Nat.reduceSub, Nat.reduceMul, Nat.reduceLeDiff, Nat.reduceLT, Int.reduceLT, Int.reduceLE, Int.reduceEq, Int.reduceToNat, reduceCtorEq, FB, ED, FT, cx_spec_GateNew, gateNew, h0, h1, wrap_one, wrap_two, min2_0, min2_1, min2_2]
  all_goals rw [loopV_by B0_spec_GateNew.eq_1]
  all_goals simp (maxSteps := 10000000) (disch := first | assumption | omega) only [EG, EL, ↓reduceIte, Nat.reduceEqDiff, Nat.reduceAdd, Nat.reduceSub, Nat.reduceMul, Nat.reduceLeDiff, Nat.reduceLT, Int.reduceLT, Int.reduceLE, Int.reduceEq, Int.reduceToNat, reduceCtorEq, FB, ED, FT, cx_spec_GateNew, gateNew, h0, h1, wrap_one, wrap_two, min2_0, min2_1, min2_2]
  all_goals first | rfl | skip
  all_goals rw [loopV_by B0_spec_GateNew.eq_1]
  all_goals simp (maxSteps := 10000000) (disch := first | assumption | omega) only [EG, EL, ↓reduceIte, Nat.reduceEqDiff, Nat.reduceAdd, Nat.reduceSub, Nat.reduceMul, Nat.reduceLeDiff, Nat.reduceLT, Int.reduceLT, Int.reduceLE, Int.reduceEq, Int.reduceToNat, reduceCtorEq, FB, ED, FT, cx_spec_GateNew, gateNew, h0, h1, wrap_one, wrap_two, min2_0, min2_1, min2_2]
  all_goals first | rfl | skip
  all_goals rw [loopV_by B0_spec_GateNew.eq_1]
  all_goals by_cases h2 : 2 < n
  all_goals simp (maxSteps := 10000000) (disch := first | assumption | omega) only [EG, EL, ↓reduceIte, Nat.reduceEqDiff, Nat.reduceAdd, Nat.reduceSub, Nat.reduceMul, Nat.reduceLeDiff, Nat.reduceLT, Int.reduceLT, Int.reduceLE, Int.reduceEq, Int.reduceToNat, reduceCtorEq, FB, ED, FT, cx_spec_GateNew, gateNew, h0, h1, h2, wrap_one, wrap_two, min2_0, min2_1, min2_2]
  all_goals first | rfl | skip
def procCore (x : DImage) (i : Nat) : DCore := ⟨List.replicate 8 0, if h : i < x.Starts.length then x.Starts[i] else 0, i⟩
def coresF (x : DImage) : List DProcess → Nat → List DCore
  | [], _ => []
  | _ :: r, i => procCore x i :: coresF x r (i + 1)
def readyF : List DProcess → Nat → List Int
  | [], _ => []
  | _ :: r, i => (i : Int) :: readyF r (i + 1)
def overF : List DProcess → List Bool
  | [] => []
  | _ :: r => false :: overF r
def monG (m : DMonitor) : DGate := gateNew m.Queues.length
def kernelNew (p : DProgram) (x : DImage) : DKernel := ⟨p.Monitors.map monG, readyF p.Processes 0, coresF x p.Processes 0, overF p.Processes⟩
theorem gateNew_len {n : Int} : (gateNew n).Waits.length + (gateNew n).Queues.length ≤ 2 := by
  unfold gateNew; split <;> (try split) <;> simp
theorem tot_monG : ∀ {ms : List DMonitor}, tot wtGate (ms.map monG) ≤ 2 * ms.length
  | [] => Nat.le_refl _
  | m :: ms => by
    have := @tot_monG ms
    have h := @gateNew_len (m.Queues.length : Int)
    simp only [List.map_cons, tot, List.length_cons, monG, wtGate] at *
    omega
theorem coresF_tot {x : DImage} : ∀ {ps : List DProcess} {i : Nat}, tot wtCore (coresF x ps i) = 8 * ps.length ∧ (coresF x ps i).length = ps.length ∧ (readyF ps i).length = ps.length ∧ (overF ps).length = ps.length
  | [], _ => ⟨rfl, rfl, rfl, rfl⟩
  | p :: ps, i => by
    obtain ⟨a, b, c, d⟩ := @coresF_tot x ps (i + 1)
    simp only [coresF, readyF, overF, tot, List.length_cons, wtCore, procCore, List.length_replicate] at *
    omega
def insOk (op a b c : Int) : Bool := decide ((1 ≤ op ∧ op ≤ 10) ∧ (0 ≤ a ∧ a ≤ 7) ∧ (0 ≤ b ∧ b ≤ 7) ∧ (0 ≤ c ∧ c ≤ 4194303) ∧ (op = 4 ∨ b = 0) ∧ (op ≠ 1 ∨ c ≤ 1000000) ∧ (op ≠ 4 ∨ (1 ≤ c ∧ c ≤ 9)) ∧ ((op ≠ 5 ∧ op ≠ 6) ∨ c = 0) ∧ (op ≠ 8 ∨ a = 0) ∧ (op ≠ 10 ∨ 1 ≤ a))
theorem insOk_no {op a b c : Int} (h : ¬ ((1 ≤ op ∧ op ≤ 10) ∧ (0 ≤ a ∧ a ≤ 7) ∧ (0 ≤ b ∧ b ≤ 7) ∧ (0 ≤ c ∧ c ≤ 4194303) ∧ (op = 4 ∨ b = 0))) : insOk op a b c = false := by
  unfold insOk; apply decide_eq_false; omega
theorem insOk_t {op a b c : Int} (h : (1 ≤ op ∧ op ≤ 10) ∧ (0 ≤ a ∧ a ≤ 7) ∧ (0 ≤ b ∧ b ≤ 7) ∧ (0 ≤ c ∧ c ≤ 4194303) ∧ (op = 4 ∨ b = 0) ∧ (op ≠ 1 ∨ c ≤ 1000000) ∧ (op ≠ 4 ∨ (1 ≤ c ∧ c ≤ 9)) ∧ ((op ≠ 5 ∧ op ≠ 6) ∨ c = 0) ∧ (op ≠ 8 ∨ a = 0) ∧ (op ≠ 10 ∨ 1 ≤ a)) : some (AV.bool true, ([] : List (List AV))) = some (.bool (insOk op a b c), []) := by
  unfold insOk; rw [decide_eq_true h]
theorem insOk_f {op a b c : Int} (h : ¬ ((1 ≤ op ∧ op ≤ 10) ∧ (0 ≤ a ∧ a ≤ 7) ∧ (0 ≤ b ∧ b ≤ 7) ∧ (0 ≤ c ∧ c ≤ 4194303) ∧ (op = 4 ∨ b = 0) ∧ (op ≠ 1 ∨ c ≤ 1000000) ∧ (op ≠ 4 ∨ (1 ≤ c ∧ c ≤ 9)) ∧ ((op ≠ 5 ∧ op ≠ 6) ∨ c = 0) ∧ (op ≠ 8 ∨ a = 0) ∧ (op ≠ 10 ∨ 1 ≤ a))) : some (AV.bool false, ([] : List (List AV))) = some (.bool (insOk op a b c), []) := by
  unfold insOk; rw [decide_eq_false h]
theorem insOk_d {op a b c : Int} {p : Prop} [Decidable p] (h : p ↔ ((1 ≤ op ∧ op ≤ 10) ∧ (0 ≤ a ∧ a ≤ 7) ∧ (0 ≤ b ∧ b ≤ 7) ∧ (0 ≤ c ∧ c ≤ 4194303) ∧ (op = 4 ∨ b = 0) ∧ (op ≠ 1 ∨ c ≤ 1000000) ∧ (op ≠ 4 ∨ (1 ≤ c ∧ c ≤ 9)) ∧ ((op ≠ 5 ∧ op ≠ 6) ∨ c = 0) ∧ (op ≠ 8 ∨ a = 0) ∧ (op ≠ 10 ∨ 1 ≤ a))) : some (AV.bool (decide p), ([] : List (List AV))) = some (.bool (insOk op a b c), []) := by
  unfold insOk; rw [decide_eq_decide.2 h]
def valOk (n : Int) : Bool := decide (-1000000 ≤ n ∧ n ≤ 1000000)
def bitF (b : Bool) : Int := if b = true then 1 else 0
def dOp (w : Int) : Int := w.fdiv (2 ^ 28)
def s25 (w : Int) : Int := w.fdiv (2 ^ 25)
def s22 (w : Int) : Int := w.fdiv (2 ^ 22)
def dA (w : Int) : Int := IntKind.wrap .i64 (BitVec.ofInt 64 (s25 w) &&& BitVec.ofInt 64 7).toNat
def dB (w : Int) : Int := IntKind.wrap .i64 (BitVec.ofInt 64 (s22 w) &&& BitVec.ofInt 64 7).toNat
def dC (w : Int) : Int := IntKind.wrap .i64 (BitVec.ofInt 64 w &&& BitVec.ofInt 64 4194303).toNat
theorem b28 {w : Int} : bin .shr (.int .i64 w) (.int .u64 28) = some (.int .i64 (dOp w)) := rfl
theorem b25 {w : Int} : bin .shr (.int .i64 w) (.int .u64 25) = some (.int .i64 (s25 w)) := rfl
theorem b22 {w : Int} : bin .shr (.int .i64 w) (.int .u64 22) = some (.int .i64 (s22 w)) := rfl
theorem bA {w : Int} : bin .and (.int .i64 (s25 w)) (.int .i64 7) = some (.int .i64 (dA w)) := rfl
theorem bB {w : Int} : bin .and (.int .i64 (s22 w)) (.int .i64 7) = some (.int .i64 (dB w)) := rfl
theorem bC {w : Int} : bin .and (.int .i64 w) (.int .i64 4194303) = some (.int .i64 (dC w)) := rfl
theorem valOk_zero : valOk 0 = true := by decide
theorem big_op {w : Int} (h : ¬ w ≤ 8589934592) : insOk (dOp w) (dA w) (dB w) (dC w) = false := by
  apply insOk_no
  have : 11 ≤ dOp w := by unfold dOp; rw [Int.fdiv_eq_ediv_of_nonneg _ (by decide)]; omega
  omega
def decOk (w : Int) : Bool := decide (0 ≤ w) && insOk (dOp w) (dA w) (dB w) (dC w)
def decR (w : Int) : AV := if decOk w = true then .tup [.agg [.int .i64 (dOp w), .int .i64 (dA w), .int .i64 (dB w), .int .i64 (dC w)], .bool true] else .tup [.agg [.int .i64 0, .int .i64 0, .int .i64 0, .int .i64 0], .bool false]
def calcN (op a b : Int) : Int := if op = 1 then IntKind.wrap .i64 (a + b) else if op = 2 then IntKind.wrap .i64 (a - b) else if op = 3 then IntKind.wrap .i64 (a * b) else if op = 4 then IntKind.wrap .i64 (a.tdiv b) else if op = 5 then a.tmod b else if op = 6 then bitF (decide (a < b)) else if op = 7 then bitF (decide (a = b)) else if op = 8 then bitF (!decide (a = 0) && !decide (b = 0)) else bitF (!decide (a = 0) || !decide (b = 0))
def calcF (op a b : Int) : Int × Int := if valOk a = true ∧ valOk b = true ∧ 1 ≤ op ∧ op ≤ 9 then (if b = 0 ∧ (op = 4 ∨ op = 5) then (0, 2) else if valOk (calcN op a b) = true then (calcN op a b, 0) else (0, 1)) else (0, 1)
def negF (a : Int) : Int × Int := if valOk a = true then (IntKind.wrap .i64 (0 - a), 0) else (0, 1)
def coreOkF (c : DCore) : Bool := c.Regs.all valOk && (decide (c.Regs.length = 8) && (decide (0 ≤ c.Pc) && decide (-1 ≤ c.Process ∧ c.Process ≤ 3)))
def stepG (x : DCore) (m : List Int) (op : Int) (a b c : Nat) : DCore × List Int × Int :=
  if op = 2 ∨ op = 3 ∨ op = 9 then
    if m.length ≤ c then (x, m, 4)
    else if op = 3 then ({ x with Pc := IntKind.wrap .i64 (x.Pc + 1) }, m.set c (x.Regs.getD a 0), 0)
    else if valOk (m.getD c 0) = true then ({ x with Regs := x.Regs.set a (m.getD c 0), Pc := IntKind.wrap .i64 (x.Pc + 1) }, if op = 9 then m.set c 1 else m, 0)
    else (x, m, 4)
  else if op = 7 then ({ x with Pc := if x.Regs.getD a 0 = 0 then (c : Int) else IntKind.wrap .i64 (x.Pc + 1) }, m, 0)
  else if op = 8 then ({ x with Pc := (c : Int) }, m, 0)
  else if op = 10 then ({ x with Pc := IntKind.wrap .i64 (x.Pc + 1) }, m, 10)
  else
    let r : Int × Int := if op = 1 then ((c : Int), 0) else if op = 4 then calcF c (x.Regs.getD a 0) (x.Regs.getD b 0) else if op = 5 then (bitF (decide (x.Regs.getD a 0 = 0)), 0) else negF (x.Regs.getD a 0)
    if r.2 = 0 then ({ x with Regs := x.Regs.set a r.1, Pc := IntKind.wrap .i64 (x.Pc + 1) }, m, 0) else (x, m, r.2)
def stepF (x : DCore) (t m : List Int) : DCore × List Int × Int :=
  if coreOkF x = true ∧ (0 ≤ x.Pc ∧ x.Pc ≤ (t.length : Int) - 1) ∧ decOk (t.getD x.Pc.toNat 0) = true then stepG x m (dOp (t.getD x.Pc.toNat 0)) (dA (t.getD x.Pc.toNat 0)).toNat (dB (t.getD x.Pc.toNat 0)).toNat (dC (t.getD x.Pc.toNat 0)).toNat else (x, m, 4)
theorem decOk_bounds {w : Int} (h : decOk w = true) : ∃ op : Int, ∃ a b c : Nat, dOp w = op ∧ dA w = (a : Int) ∧ dB w = (b : Int) ∧ dC w = (c : Int) ∧ (1 ≤ op ∧ op ≤ 10) ∧ a < 8 ∧ b < 8 ∧ c ≤ 4194303 := by
  simp only [decOk, insOk, Bool.and_eq_true, decide_eq_true_eq] at h
  exact ⟨dOp w, (dA w).toNat, (dB w).toNat, (dC w).toNat, rfl, by omega, by omega, by omega, by omega, by omega, by omega, by omega⟩
theorem coreOk_len {x : DCore} (h : coreOkF x = true) : x.Regs.length = 8 ∧ 0 ≤ x.Pc := by
  simp only [coreOkF, Bool.and_eq_true, decide_eq_true_eq] at h
  exact ⟨h.2.1, h.2.2.1⟩
theorem stepG_len {x : DCore} {m : List Int} {op : Int} {a b c : Nat} : (stepG x m op a b c).1.Regs.length = x.Regs.length ∧ (stepG x m op a b c).2.1.length = m.length := by
  unfold stepG
  dsimp only
  repeat' split
  all_goals first | exact ⟨rfl, rfl⟩ | (simp only [List.length_set]; exact ⟨rfl, rfl⟩) | simp
theorem stepF_regs {x : DCore} {t m : List Int} : (stepF x t m).1.Regs.length = x.Regs.length := by
  unfold stepF; split
  · exact stepG_len.1
  · rfl
theorem stepF_mem {x : DCore} {t m : List Int} : (stepF x t m).2.1.length = m.length := by
  unfold stepF; split
  · exact stepG_len.2
  · rfl
def nV (m : DMonitor) : Nat := m.Vars.length
def nP (q : DProcess) : Nat := q.Vars.length + 2
def pv (p : DProgram) (k : Nat) : Nat := match p.Processes[k]? with | some q => q.Vars.length | none => 0
theorem pv_eq {p : DProgram} {k : Nat} (h : k < p.Processes.length) : pv p k = p.Processes[k].Vars.length := by simp [pv, h]
def procIn (p : DProgram) (k : Int) : Prop := 0 ≤ k ∧ k ≤ (p.Processes.length : Int) - 1
instance (p : DProgram) (k : Int) : Decidable (procIn p k) := inferInstanceAs (Decidable (_ ∧ _))
def varAt (p : DProgram) (k i : Int) : Int := if (0 ≤ k ∧ k ≤ (p.Processes.length : Int) - 1) ∧ (0 ≤ i ∧ i ≤ (pv p k.toNat : Int)) then ((1 + tot nV p.Monitors + tot nP (p.Processes.take k.toNat) : Nat) : Int) + i else -1
theorem tot_drop {α : Type} {f : α → Nat} {xs : List α} {i : Nat} (h : i < xs.length) : tot f (xs.drop i) = f xs[i] + tot f (xs.drop (i + 1)) := by
  rw [List.drop_eq_getElem_cons h]; rfl
theorem totTake_le {α : Type} {f : α → Nat} : ∀ {xs : List α} {n : Nat}, tot f (xs.take n) ≤ tot f xs
  | [], n => by simp
  | x :: xs, 0 => by simp [tot]
  | x :: xs, n + 1 => by have := @totTake_le α f xs n; simp only [List.take_succ_cons, tot]; omega
theorem tot_mono {α : Type} {f g : α → Nat} (h : ∀ x, f x ≤ g x) : ∀ {xs : List α}, tot f xs ≤ tot g xs
  | [] => Nat.le_refl _
  | x :: xs => by have := @tot_mono _ _ _ h xs; have := h x; simp only [tot]; omega
theorem tot_nP : ∀ {xs : List DProcess}, tot nP xs ≤ tot wtProcess xs + 2 * xs.length
  | [] => Nat.le_refl _
  | x :: xs => by have := @tot_nP xs; simp only [tot, nP, wtProcess, List.length_cons]; omega
theorem tot_nV {xs : List DMonitor} : tot nV xs ≤ tot wtMonitor xs := tot_mono fun x => by unfold nV wtMonitor; omega
def atsF (p : DProgram) (k : Int) : List ByteArray → Nat → List Int
  | [], _ => []
  | _ :: r, i => varAt p k i :: atsF p k r (i + 1)
def varsOf (p : DProgram) (k : Nat) : List ByteArray := match p.Processes[k]? with | some q => q.Vars | none => []
theorem varsOf_eq {p : DProgram} {k : Nat} (h : k < p.Processes.length) : varsOf p k = p.Processes[k].Vars := by simp [varsOf, h]
def ownPlaces (p : DProgram) (k : Int) : DPlaces := if 0 ≤ k ∧ k ≤ (p.Processes.length : Int) - 1 then ⟨varsOf p k.toNat, atsF p k (varsOf p k.toNat) 0⟩ else ⟨[], []⟩
theorem atsF_len {p : DProgram} {k : Int} : ∀ {xs : List ByteArray} {i : Nat}, (atsF p k xs i).length = xs.length
  | [], _ => rfl
  | x :: xs, i => by simp only [atsF, List.length_cons, @atsF_len p k xs (i + 1)]
theorem ownPlaces_wt {p : DProgram} {k : Int} : wtPlaces (ownPlaces p k) ≤ 2 * tot wtProcess p.Processes := by
  unfold ownPlaces
  split
  · simp only [wtPlaces, atsF_len]
    unfold varsOf
    cases h : p.Processes[k.toNat]? with
    | none => simp [tot]
    | some q =>
      have := le_tot wtProcess (List.mem_of_getElem? h)
      simp only [wtProcess] at this
      simp only; omega
  · simp [wtPlaces, tot]
def mv (p : DProgram) (k : Nat) : Nat := match p.Monitors[k]? with | some q => q.Vars.length | none => 0
theorem mv_eq {p : DProgram} {k : Nat} (h : k < p.Monitors.length) : mv p k = p.Monitors[k].Vars.length := by simp [mv, h]
def sharedAt (p : DProgram) (k i : Int) : Int := if (0 ≤ k ∧ k ≤ (p.Monitors.length : Int) - 1) ∧ (0 ≤ i ∧ i ≤ (mv p k.toNat : Int) - 1) then ((1 + tot nV (p.Monitors.take k.toNat) : Nat) : Int) + i else -1
def argAt (p : DProgram) (k : Int) : Int := if 0 ≤ k ∧ k ≤ (p.Processes.length : Int) - 1 then varAt p k (pv p k.toNat) else -1
def resultAt (p : DProgram) (k : Int) : Int := if argAt p k < 0 then -1 else IntKind.wrap .i64 (argAt p k + 1)
theorem nV_lt {p : DProgram} {k : Nat} (h : k < p.Monitors.length) : p.Monitors[k].Vars.length + tot nV (p.Monitors.take k) ≤ tot nV p.Monitors := by
  have := @tot_take _ nV p.Monitors k h
  have : nV p.Monitors[k] = p.Monitors[k].Vars.length := rfl
  omega
def satsF (p : DProgram) (m : Int) : List ByteArray → Nat → List Int
  | [], _ => []
  | _ :: r, i => sharedAt p m i :: satsF p m r (i + 1)
def mvars (p : DProgram) (m : Nat) : List ByteArray := match p.Monitors[m]? with | some q => q.Vars | none => []
def ents (p : DProgram) (m : Nat) : List DEntry := match p.Monitors[m]? with | some q => q.Entries | none => []
def paramOf (p : DProgram) (m n : Nat) : ByteArray := match (ents p m)[n]? with | some q => q.Param | none => ⟨#[]⟩
theorem mvars_eq {p : DProgram} {m : Nat} (h : m < p.Monitors.length) : mvars p m = p.Monitors[m].Vars := by simp [mvars, h]
theorem ents_eq {p : DProgram} {m : Nat} (h : m < p.Monitors.length) : ents p m = p.Monitors[m].Entries := by simp [ents, h]
theorem param_eq {p : DProgram} {m n : Nat} (h : m < p.Monitors.length) (h2 : n < p.Monitors[m].Entries.length) : paramOf p m n = p.Monitors[m].Entries[n].Param := by
  unfold paramOf; rw [ents_eq h]; simp [h2]
def resB : ByteArray := ⟨#[114, 101, 115, 117, 108, 116]⟩
def entryPlaces (p : DProgram) (k m n : Int) : DPlaces :=
  if (0 ≤ k ∧ k ≤ (p.Processes.length : Int) - 1) ∧ (0 ≤ m ∧ m ≤ (p.Monitors.length : Int) - 1) ∧ (0 ≤ n ∧ n ≤ ((ents p m.toNat).length : Int) - 1) then ⟨[paramOf p m.toNat n.toNat, resB] ++ mvars p m.toNat, [argAt p k, resultAt p k] ++ satsF p m (mvars p m.toNat) 0⟩ else ⟨[], []⟩
theorem satsF_len {p : DProgram} {k : Int} : ∀ {xs : List ByteArray} {i : Nat}, (satsF p k xs i).length = xs.length
  | [], _ => rfl
  | x :: xs, i => by simp only [satsF, List.length_cons, @satsF_len p k xs (i + 1)]
theorem entryPlaces_wt {p : DProgram} {k m n : Int} : wtPlaces (entryPlaces p k m n) ≤ 3 * tot wtMonitor p.Monitors + 100 := by
  unfold entryPlaces
  split
  · simp only [wtPlaces, List.length_append, satsF_len, List.length_cons, List.length_nil, List.cons_append, List.nil_append, tot]
    have hr : wtS resB = 6 := rfl
    unfold paramOf mvars ents
    cases h : p.Monitors[m.toNat]? with
    | none => simp [tot, wtS] at *; omega
    | some q =>
      have h1 := le_tot wtMonitor (List.mem_of_getElem? h)
      simp only [wtMonitor] at h1
      simp only
      cases h2 : q.Entries[n.toNat]? with
      | none =>
        have : wtS (⟨#[]⟩ : ByteArray) = 0 := rfl
        simp only; omega
      | some e =>
        have h3 := le_tot wtEntry (List.mem_of_getElem? h2)
        simp only [wtEntry] at h3
        have : wtS e.Param = e.Param.size := rfl
        simp only; omega
  · simp [wtPlaces, tot]
/-! gates that are drawn; what stays right -/
theorem freshB_iff : ∀ (xs seen : List Int), freshB seen xs = true ↔ ((∀ x ∈ xs, 0 ≤ x ∧ x ≤ 3) ∧ (∀ x ∈ xs, x ∉ seen) ∧ xs.Nodup)
  | [], seen => by simp [freshB]
  | x :: xs, seen => by
    unfold freshB
    simp only [Bool.and_eq_true, decide_eq_true_eq, freshB_iff xs (seen ++ [x]), List.mem_cons, forall_eq_or_imp, List.nodup_cons, List.mem_append, List.mem_nil_iff, or_false, not_or]
    constructor
    · rintro ⟨h1, h2, h3, h4, h5⟩
      exact ⟨⟨h1, h3⟩, ⟨h2, fun y hy => (h4 y hy).1⟩, fun hx => (h4 x hx).2 rfl, h5⟩
    · rintro ⟨⟨h1, h3⟩, ⟨h2, h4⟩, h5, h6⟩
      exact ⟨h1, h2, h3, fun y hy => ⟨h4 y hy, fun e => h5 (e ▸ hy)⟩, h6⟩
theorem fresh_iff (xs : List Int) : freshB [] xs = true ↔ ((∀ x ∈ xs, 0 ≤ x ∧ x ≤ 3) ∧ xs.Nodup) := by rw [freshB_iff]; simp
theorem fresh_perm {xs ys : List Int} (h : xs.Perm ys) (hx : freshB [] xs = true) : freshB [] ys = true := by
  rw [fresh_iff] at hx ⊢
  exact ⟨fun y hy => hx.1 y (h.mem_iff.2 hy), h.nodup_iff.1 hx.2⟩
theorem fresh_sub {xs ys : List Int} (h : ys.Sublist xs) (hx : freshB [] xs = true) : freshB [] ys = true := by
  rw [fresh_iff] at hx ⊢
  exact ⟨fun y hy => hx.1 y (h.mem hy), hx.2.sublist h⟩
theorem gateOk_iff {o : Int} {w q : List Int} : gateOk o w q = true ↔ (q.length ≤ 2 ∧ freshB [] (inGate o w q) = true ∧ (o ≠ -1 ∨ w.length = 0)) := by
  unfold gateOk inGate
  simp only [Bool.and_eq_true, decide_eq_true_eq]
theorem somebody_fill : ∀ {q : List Int} {i : Nat} {a : Int} (hi : i < q.length), q[i] = -1 → a ≠ -1 → (a :: somebody q).Perm (somebody (q.set i a))
  | x :: q, 0, a, _, h, ha => by
    simp only [List.getElem_cons_zero] at h
    subst h
    simp [somebody, ha]
  | x :: q, i + 1, a, hi, h, ha => by
    simp only [List.getElem_cons_succ] at h
    have ih := somebody_fill (q := q) (i := i) (by simpa using hi) h ha
    simp only [List.set_cons_succ]
    unfold somebody at ih ⊢
    simp only [List.filter_cons]
    split
    · exact (List.Perm.swap _ _ _).trans (ih.cons _)
    · exact ih
theorem somebody_take : ∀ {q : List Int} {i : Nat} (hi : i < q.length), q[i] ≠ -1 → (somebody q).Perm (q[i] :: somebody (q.set i (-1)))
  | x :: q, 0, _, h => by
    simp only [List.getElem_cons_zero] at h ⊢
    simp [somebody, h]
  | x :: q, i + 1, hi, h => by
    simp only [List.getElem_cons_succ] at h ⊢
    have ih := somebody_take (q := q) (i := i) (by simpa using hi) h
    simp only [List.set_cons_succ]
    unfold somebody at ih ⊢
    simp only [List.filter_cons]
    split
    · exact (ih.cons _).trans (List.Perm.swap _ _ _)
    · exact ih
theorem ok_next {x : DGate} (h : gateOk x.Owner x.Waits x.Queues = true) : gateOk (nextG x).Owner (nextG x).Waits (nextG x).Queues = true := by
  obtain ⟨o, w, q⟩ := x
  rw [gateOk_iff] at h
  obtain ⟨h1, h2, h3⟩ := h
  simp only at h1 h2 h3
  unfold nextG
  cases w with
  | nil =>
    rw [gateOk_iff]
    exact ⟨h1, fresh_sub (by unfold inGate; simp) h2, .inr rfl⟩
  | cons y ys =>
    have hy : 0 ≤ y ∧ y ≤ 3 := by
      rw [fresh_iff] at h2
      exact h2.1 y (by unfold inGate; simp)
    have hy1 : y ≠ -1 := by omega
    simp only
    rw [gateOk_iff]
    refine ⟨h1, fresh_sub ?_ h2, .inl hy1⟩
    unfold inGate
    rw [if_neg hy1]
    simp
theorem ok_leave {x : DGate} (h : gateOk x.Owner x.Waits x.Queues = true) : gateOk (leaveG x).1.Owner (leaveG x).1.Waits (leaveG x).1.Queues = true := by
  unfold leaveG
  split
  · exact ok_next h
  · exact h
theorem ok_arrive {x : DGate} {i : Int} (h : gateOk x.Owner x.Waits x.Queues = true) : gateOk (arriveG x i).1.Owner (arriveG x i).1.Waits (arriveG x i).1.Queues = true := by
  unfold arriveG
  split
  · rename_i hc
    obtain ⟨_, h1, h2⟩ := hc
    have hi1 : i ≠ -1 := by omega
    obtain ⟨o, w, q⟩ := x
    simp only at h h2 ⊢
    have h0 := h
    rw [gateOk_iff] at h
    obtain ⟨g1, g2, g3⟩ := h
    have hno : i ∉ inGate o w q := by
      unfold inGate somebody
      simp only [List.mem_append, List.mem_filter, not_or]
      refine ⟨⟨?_, fun hw => h2 (.inr (.inl hw))⟩, fun hq => h2 (.inr (.inr hq.1))⟩
      split
      · simp
      · simp only [List.mem_singleton]; exact fun e => h2 (.inl e.symm)
    have key : freshB [] (i :: inGate o w q) = true := by
      rw [fresh_iff] at g2 ⊢
      refine ⟨fun x hx => ?_, List.nodup_cons.2 ⟨hno, g2.2⟩⟩
      rcases List.mem_cons.1 hx with rfl | hx
      · exact h1
      · exact g2.1 x hx
    split
    · rename_i ho
      subst ho
      have hw : w = [] := by
        rcases g3 with g3 | g3
        · exact absurd rfl g3
        · exact List.length_eq_zero_iff.1 g3
      subst hw
      simp only
      rw [gateOk_iff]
      refine ⟨g1, fresh_perm ?_ key, .inl hi1⟩
      unfold inGate
      rw [if_neg hi1]
      simp
    · rename_i ho
      simp only
      rw [gateOk_iff]
      refine ⟨g1, fresh_perm ?_ key, .inl ho⟩
      unfold inGate
      rw [if_neg ho]
      simp only [List.append_assoc, List.cons_append, List.nil_append]
      refine (List.Perm.swap _ _ _).trans (List.Perm.cons _ ?_)
      exact List.perm_middle.symm
  · exact h
theorem ok_delay {x : DGate} {q : Int} (h : gateOk x.Owner x.Waits x.Queues = true) : gateOk (delayG x q).1.Owner (delayG x q).1.Waits (delayG x q).1.Queues = true := by
  unfold delayG
  split
  · rename_i hc
    obtain ⟨_, h1, h2, h3⟩ := hc
    have hn := ok_next h
    obtain ⟨o, w, qs⟩ := x
    simp only at h h1 h2 h3 ⊢
    have hi : q.toNat < qs.length := by omega
    have hq : qs[q.toNat] = -1 := by rw [← h3]; simp [List.getD_eq_getElem?_getD, hi]
    have hp := somebody_fill (a := o) hi hq h1
    rw [gateOk_iff] at h hn ⊢
    obtain ⟨g1, g2, g3⟩ := h
    refine ⟨by rw [List.length_set]; exact g1, ?_, hn.2.2⟩
    refine fresh_perm (xs := inGate o w qs) ?_ g2
    unfold inGate nextG
    rw [if_neg h1]
    cases w with
    | nil =>
      simp only [if_true, List.nil_append, List.append_nil]
      exact hp
    | cons y ys =>
      have hy : 0 ≤ y ∧ y ≤ 3 := by
        rw [fresh_iff] at g2
        exact g2.1 y (by unfold inGate; simp)
      have hy1 : ¬ y = -1 := by omega
      simp only [hy1, if_false, List.cons_append, List.nil_append]
      refine (List.Perm.swap _ _ _).trans (List.Perm.cons _ ?_)
      exact List.perm_middle.symm.trans (hp.append_left ys)
  · exact h
theorem ok_cont {x : DGate} {q : Int} (h : gateOk x.Owner x.Waits x.Queues = true) : gateOk (contG x q).1.Owner (contG x q).1.Waits (contG x q).1.Queues = true := by
  unfold contG
  split
  · rename_i hc
    obtain ⟨_, h1, h2⟩ := hc
    split
    · exact ok_next h
    · rename_i h3
      obtain ⟨o, w, qs⟩ := x
      simp only at h h1 h2 h3 ⊢
      have hi : q.toNat < qs.length := by omega
      have hgd : qs.getD q.toNat 0 = qs[q.toNat] := by simp [List.getD_eq_getElem?_getD, hi]
      rw [hgd] at h3 ⊢
      have hp := somebody_take hi h3
      rw [gateOk_iff] at h ⊢
      obtain ⟨g1, g2, g3⟩ := h
      refine ⟨by rw [List.length_set]; exact g1, ?_, .inl h3⟩
      have g4 : freshB [] (w ++ somebody qs) = true := fresh_sub (by unfold inGate; rw [if_neg h1]; simp) g2
      refine fresh_perm ((hp.append_left w).trans ?_) g4
      unfold inGate
      rw [if_neg h3]
      simp only [List.cons_append, List.nil_append]
      exact List.perm_middle
  · exact h
theorem len_next {x : DGate} : (nextG x).Waits.length ≤ x.Waits.length ∧ (nextG x).Queues = x.Queues := by
  unfold nextG
  cases hw : x.Waits <;> simp [hw]
theorem len_leave {x : DGate} : (leaveG x).1.Waits.length ≤ x.Waits.length ∧ (leaveG x).1.Queues.length = x.Queues.length := by
  unfold leaveG
  have := @len_next x
  split
  · simp only; rw [this.2]; exact ⟨this.1, rfl⟩
  · exact ⟨Nat.le_refl _, rfl⟩
theorem len_arrive {x : DGate} {i : Int} : (arriveG x i).1.Waits.length ≤ x.Waits.length + 1 ∧ (arriveG x i).1.Queues.length = x.Queues.length := by
  unfold arriveG
  split
  · split <;> simp
  · simp
theorem len_delay {x : DGate} {q : Int} : (delayG x q).1.Waits.length ≤ x.Waits.length ∧ (delayG x q).1.Queues.length = x.Queues.length := by
  unfold delayG
  have := @len_next x
  split
  · simp [this.1]
  · simp
theorem len_cont {x : DGate} {q : Int} : (contG x q).1.Waits.length ≤ x.Waits.length ∧ (contG x q).1.Queues.length = x.Queues.length := by
  unfold contG
  have := @len_next x
  split
  · split
    · simp [this.1, this.2]
    · simp
  · simp
def gateStep (g : DGate) (c : Cur) : DGate × Cur :=
  if (belowF 6 c).1 = 3 then ((leaveG g).1, (belowF 6 c).2)
  else if (belowF 6 c).1 = 4 then ((delayG g (belowF 2 (belowF 6 c).2).1).1, (belowF 2 (belowF 6 c).2).2)
  else if (belowF 6 c).1 = 5 then ((contG g (belowF 2 (belowF 6 c).2).1).1, (belowF 2 (belowF 6 c).2).2)
  else ((arriveG g (belowF 4 (belowF 6 c).2).1).1, (belowF 4 (belowF 6 c).2).2)
def gateRun : List Unit → Nat → DGate → Cur → DGate × Cur
  | [], _, g, c => (g, (belowF 12 c).2)
  | _ :: n, i, g, c => if (i : Int) < (belowF 12 c).1 then gateRun n (i + 1) (gateStep g (belowF 12 c).2).1 (gateStep g (belowF 12 c).2).2 else (g, (belowF 12 c).2)
theorem gateStep_b {g : DGate} {c : Cur} : (gateStep g c).2.b = c.b := by
  unfold gateStep
  (repeat' split) <;> simp only [belowF_b]
theorem gateStep_len {g : DGate} {c : Cur} : (gateStep g c).1.Waits.length ≤ g.Waits.length + 1 ∧ (gateStep g c).1.Queues.length = g.Queues.length := by
  unfold gateStep
  split
  · have := @len_leave g; exact ⟨by simp only; omega, this.2⟩
  · split
    · have := @len_delay g (belowF 2 (belowF 6 c).2).1; exact ⟨by simp only; omega, this.2⟩
    · split
      · have := @len_cont g (belowF 2 (belowF 6 c).2).1; exact ⟨by simp only; omega, this.2⟩
      · exact len_arrive
theorem gateStep_ok {g : DGate} {c : Cur} (h : gateOk g.Owner g.Waits g.Queues = true) : gateOk (gateStep g c).1.Owner (gateStep g c).1.Waits (gateStep g c).1.Queues = true := by
  unfold gateStep
  split
  · exact ok_leave h
  · split
    · exact ok_delay h
    · split
      · exact ok_cont h
      · exact ok_arrive h
theorem gateRun_b : ∀ {n : List Unit} {i : Nat} {g : DGate} {c : Cur}, (gateRun n i g c).2.b = c.b
  | [], _, _, _ => by simp only [gateRun, belowF_b]
  | _ :: n, i, g, c => by
    simp only [gateRun]
    split
    · rw [gateRun_b, gateStep_b, belowF_b]
    · exact belowF_b
theorem gateRun_ok : ∀ {n : List Unit} {i : Nat} {g : DGate} {c : Cur}, gateOk g.Owner g.Waits g.Queues = true → gateOk (gateRun n i g c).1.Owner (gateRun n i g c).1.Waits (gateRun n i g c).1.Queues = true
  | [], _, _, _, h => h
  | _ :: n, i, g, c, h => by
    simp only [gateRun]
    split
    · exact gateRun_ok (gateStep_ok h)
    · exact h
theorem gateRun_len : ∀ {n : List Unit} {i : Nat} {g : DGate} {c : Cur}, (gateRun n i g c).1.Waits.length ≤ g.Waits.length + n.length ∧ (gateRun n i g c).1.Queues.length = g.Queues.length
  | [], _, _, _ => by simp [gateRun]
  | _ :: n, i, g, c => by
    simp only [gateRun]
    split
    · have h1 := @gateRun_len n (i + 1) (gateStep g (belowF 12 c).2).1 (gateStep g (belowF 12 c).2).2
      have h2 := @gateStep_len g (belowF 12 c).2
      simp only [List.length_cons]
      omega
    · exact ⟨Nat.le_add_right _ _, rfl⟩
def drawGate (c : Cur) : DGate × Cur := gateRun (List.replicate 12 ()) 0 (gateNew 2) c
theorem drawGate_b {c : Cur} : (drawGate c).2.b = c.b := gateRun_b
theorem drawGate_ok {c : Cur} : gateOk (drawGate c).1.Owner (drawGate c).1.Waits (drawGate c).1.Queues = true := gateRun_ok (by decide)
theorem drawGate_len {c : Cur} : (drawGate c).1.Waits.length ≤ 12 ∧ (drawGate c).1.Queues.length = 2 := by
  have h := @gateRun_len (List.replicate 12 ()) 0 (gateNew 2) c
  have e1 : (gateNew 2).Waits.length = 0 := rfl
  have e2 : (gateNew 2).Queues.length = 2 := by decide
  rw [e1, e2, List.length_replicate] at h
  exact ⟨by unfold drawGate; omega, h.2⟩
set_option maxHeartbeats 2000000 in
theorem loop_l12Gate (xs : List Unit) (hxs : xs.length = 12) (c0 : Cur) (g0 : DGate) (hb : c0.b.length ≤ 1048576) (hw : g0.Waits.length + g0.Queues.length ≤ 100) : loopV X_spec_l12Gate 1 [0, 2, 3, 4] [(1, [2, 3])] B0_spec_l12Gate ⟨[(0, .ptr ⟨0, none, 0⟩ 3 0 0), (2, .ptr ⟨1, none, 0⟩ 3 0 0), (3, .ptr ⟨4, none, 0⟩ 3 0 0), (4, .int .i64 0)], [some ⟨true, 0, 3, [[.tree 1 (c0.b.map cY), .int .i64 (c0.i : Int), .int .i64 c0.h]]⟩, some ⟨true, 0, 3, [[.int .i64 0, .sl ⟨2, none, 0⟩ 1 0 0, .sl ⟨3, none, 0⟩ 1 0 0]]⟩, some ⟨false, 0, 1, []⟩, some ⟨false, 0, 1, []⟩, some ⟨true, 0, 3, [[.int .i64 g0.Owner, .sl ⟨5, none, 0⟩ 1 0 g0.Waits.length, .sl ⟨6, none, 0⟩ 1 0 g0.Queues.length]]⟩, some ⟨false, 0, 1, g0.Waits.map cI⟩, some ⟨false, 0, 1, g0.Queues.map cI⟩]⟩
    = some (.exit 0, ⟨[(2, .ptr ⟨1, none, 0⟩ 3 0 0), (3, .ptr ⟨4, none, 0⟩ 3 0 0)], [some ⟨true, 0, 3, [[.tree 1 ((gateRun xs 0 g0 c0).2.b.map cY), .int .i64 ((gateRun xs 0 g0 c0).2.i : Int), .int .i64 (gateRun xs 0 g0 c0).2.h]]⟩, some ⟨true, 0, 3, [[.int .i64 0, .sl ⟨2, none, 0⟩ 1 0 0, .sl ⟨3, none, 0⟩ 1 0 0]]⟩, some ⟨false, 0, 1, []⟩, some ⟨false, 0, 1, []⟩, some ⟨true, 0, 3, [[.int .i64 (gateRun xs 0 g0 c0).1.Owner, .sl ⟨5, none, 0⟩ 1 0 (gateRun xs 0 g0 c0).1.Waits.length, .sl ⟨6, none, 0⟩ 1 0 (gateRun xs 0 g0 c0).1.Queues.length]]⟩, some ⟨false, 0, 1, (gateRun xs 0 g0 c0).1.Waits.map cI⟩, some ⟨false, 0, 1, (gateRun xs 0 g0 c0).1.Queues.map cI⟩]⟩) := by
  refine loop_list xs (fun i (a : Nat × DGate × Cur) => a.1 = i ∧ a.2.2.b.length ≤ 1048576 ∧ a.2.1.Waits.length + a.2.1.Queues.length ≤ 100 + i) (fun i a => ⟨[(0, .ptr ⟨0, none, 0⟩ 3 0 0), (2, .ptr ⟨1, none, 0⟩ 3 0 0), (3, .ptr ⟨4, none, 0⟩ 3 0 0), (4, .int .i64 ((i : Nat) : Int))], [some ⟨true, 0, 3, [[.tree 1 (a.2.2.b.map cY), .int .i64 (a.2.2.i : Int), .int .i64 a.2.2.h]]⟩, some ⟨true, 0, 3, [[.int .i64 0, .sl ⟨2, none, 0⟩ 1 0 0, .sl ⟨3, none, 0⟩ 1 0 0]]⟩, some ⟨false, 0, 1, []⟩, some ⟨false, 0, 1, []⟩, some ⟨true, 0, 3, [[.int .i64 a.2.1.Owner, .sl ⟨5, none, 0⟩ 1 0 a.2.1.Waits.length, .sl ⟨6, none, 0⟩ 1 0 a.2.1.Queues.length]]⟩, some ⟨false, 0, 1, a.2.1.Waits.map cI⟩, some ⟨false, 0, 1, a.2.1.Queues.map cI⟩]⟩)
    (fun rest a => some (.exit 0, ⟨[(2, .ptr ⟨1, none, 0⟩ 3 0 0), (3, .ptr ⟨4, none, 0⟩ 3 0 0)], [some ⟨true, 0, 3, [[.tree 1 ((gateRun rest a.1 a.2.1 a.2.2).2.b.map cY), .int .i64 ((gateRun rest a.1 a.2.1 a.2.2).2.i : Int), .int .i64 (gateRun rest a.1 a.2.1 a.2.2).2.h]]⟩, some ⟨true, 0, 3, [[.int .i64 0, .sl ⟨2, none, 0⟩ 1 0 0, .sl ⟨3, none, 0⟩ 1 0 0]]⟩, some ⟨false, 0, 1, []⟩, some ⟨false, 0, 1, []⟩, some ⟨true, 0, 3, [[.int .i64 (gateRun rest a.1 a.2.1 a.2.2).1.Owner, .sl ⟨5, none, 0⟩ 1 0 (gateRun rest a.1 a.2.1 a.2.2).1.Waits.length, .sl ⟨6, none, 0⟩ 1 0 (gateRun rest a.1 a.2.1 a.2.2).1.Queues.length]]⟩, some ⟨false, 0, 1, (gateRun rest a.1 a.2.1 a.2.2).1.Waits.map cI⟩, some ⟨false, 0, 1, (gateRun rest a.1 a.2.1 a.2.2).1.Queues.map cI⟩]⟩)) ?_ ?_ (0, g0, c0) ⟨rfl, hb, by simp only; omega⟩
  · rintro ⟨i, g, c⟩ ⟨rfl, hb, hw⟩
    simp only at hb hw
    have hd := @belowF_bd 12 c (by decide)
    have hlt : ¬ ((xs.length : Nat) : Int) < (belowF 12 c).1 := by omega
    rw [loopV_by B0_spec_l12Gate.eq_1]
    simp (maxSteps := 10000000) (disch := first | assumption | omega) only [EG, EL, ↓reduceIte, Nat.reduceEqDiff, Nat.reduceAdd, Nat.reduceSub, Nat.reduceMul, Nat.reduceLeDiff, Nat.reduceLT, Int.reduceLT, Int.reduceLE, Int.reduceEq, Int.reduceToNat, reduceCtorEq, FB, ED, EF, FT, cx_spec_l12Gate, cl_spec_l01Below, fsem_spec_l01Below, hlt, gateRun]
  · rintro i hi0 y rest ⟨i, g, c⟩ rfl rfl ⟨rfl, hb, hw⟩ ih
    simp only at hb hw ih
    have b1 : (belowF 12 c).2.b.length ≤ 1048576 := by rw [belowF_b]; exact hb
    have b2 : (belowF 6 (belowF 12 c).2).2.b.length ≤ 1048576 := by rw [belowF_b]; exact b1
    rw [loopV_by B0_spec_l12Gate.eq_1]
    by_cases hlt : (i : Int) < (belowF 12 c).1
    · have hs := @gateStep_len g (belowF 12 c).2
      have i1 := ih (i + 1, (gateStep g (belowF 12 c).2).1, (gateStep g (belowF 12 c).2).2) ⟨rfl, by rw [gateStep_b]; exact b1, by simp only; omega⟩
      have hd := @belowF_bd 6 (belowF 12 c).2 (by decide)
      have s1 := sem_spec_Arrive g (by omega)
      have s2 := sem_spec_Leave g (by omega)
      have s3 := sem_spec_DelayIn g (by omega)
      have s4 := sem_spec_ContinueAt g (by omega)
      simp only [cGate] at s1 s2 s3 s4
      have h6 : (belowF 6 (belowF 12 c).2).1 = 0 ∨ (belowF 6 (belowF 12 c).2).1 = 1 ∨ (belowF 6 (belowF 12 c).2).1 = 2 ∨ (belowF 6 (belowF 12 c).2).1 = 3 ∨ (belowF 6 (belowF 12 c).2).1 = 4 ∨ (belowF 6 (belowF 12 c).2).1 = 5 := by omega
      rcases h6 with h6 | h6 | h6 | h6 | h6 | h6
      all_goals simp (maxSteps := 10000000) (disch := first | assumption | omega) only [gateStep, h6, EG, EL, ↓reduceIte, Nat.reduceEqDiff, Nat.reduceAdd, Nat.reduceSub, Nat.reduceMul, Nat.reduceLeDiff, Nat.reduceLT, Int.reduceLT, Int.reduceLE, Int.reduceEq, Int.reduceToNat, reduceCtorEq, FB] at i1
      all_goals simp (maxSteps := 10000000) (disch := first | rfl | assumption | omega) only [EG, EL, ↓reduceIte, Nat.reduceEqDiff, Nat.reduceAdd, Nat.reduceSub, Nat.reduceMul, Nat.reduceLeDiff, Nat.reduceLT, Int.reduceLT, Int.reduceLE, Int.reduceEq, Int.reduceToNat, reduceCtorEq, FB, ED, EF, FT, cx_spec_l12Gate, cl_spec_l01Below, fsem_spec_l01Below, h6, hlt, cl_spec_Arrive, s1, cl_spec_Leave, s2, cl_spec_DelayIn, s3, cl_spec_ContinueAt, s4, wrap_succ, gateRun, gateStep, i1]
    · simp (maxSteps := 10000000) (disch := first | rfl | assumption | omega) only [EG, EL, ↓reduceIte, Nat.reduceEqDiff, Nat.reduceAdd, Nat.reduceSub, Nat.reduceMul, Nat.reduceLeDiff, Nat.reduceLT, Int.reduceLT, Int.reduceLE, Int.reduceEq, Int.reduceToNat, reduceCtorEq, FB, ED, EF, FT, cx_spec_l12Gate, cl_spec_l01Below, fsem_spec_l01Below, hlt, gateRun]
theorem fsem_spec_l12Gate (c : Cur) (hb : c.b.length ≤ 1048576) : H_spec_l12Gate [.ptr ⟨0, none, 0⟩ 3 0 0] [some ⟨true, 0, 3, [[.tree 1 (c.b.map cY), .int .i64 (c.i : Int), .int .i64 c.h]]⟩] = some (.agg [.int .i64 (drawGate c).1.Owner, .sl ⟨1, none, 0⟩ 1 0 (drawGate c).1.Waits.length, .sl ⟨2, none, 0⟩ 1 0 (drawGate c).1.Queues.length], [some ⟨true, 0, 3, [[.tree 1 ((drawGate c).2.b.map cY), .int .i64 ((drawGate c).2.i : Int), .int .i64 (drawGate c).2.h]]⟩, some ⟨false, 0, 1, (drawGate c).1.Waits.map cI⟩, some ⟨false, 0, 1, (drawGate c).1.Queues.map cI⟩]) := by
  have hd : gateRun (List.replicate 12 ()) 0 (gateNew 2) c = drawGate c := rfl
  have l := loop_l12Gate (List.replicate 12 ()) (by simp) c (gateNew 2) hb (by decide)
  rw [hd] at l
  rw [sh_spec_l12Gate, run_goF]
  simp (maxSteps := 10000000) (disch := first | assumption | omega) only [F_spec_l12Gate, params, EG, EL, ↓reduceIte, Nat.reduceEqDiff, Nat.reduceAdd, Nat.reduceSub, Nat.reduceMul, Nat.reduceLeDiff, Nat.reduceLT, Int.reduceLT, Int.reduceLE, Int.reduceEq, Int.reduceToNat, reduceCtorEq, FB, ED, EF, FT, cx_spec_l12Gate, cl_spec_GateNew, sem_spec_GateNew, l]
theorem sem_spec_DrawGate (bs : List UInt8) (hb : bs.length ≤ 1048576) : S_spec_DrawGate.sem [.tree 1 (bs.map cY)] = some (.agg (cGate (drawGate (curNew bs)).1), []) := by
  have hb' : (curNew bs).b.length ≤ 1048576 := hb
  rw [sg_spec_DrawGate, sem_go]
  simp (maxSteps := 10000000) (disch := first | assumption | omega) only [F_spec_DrawGate, params, EG, EL, ↓reduceIte, Nat.reduceEqDiff, Nat.reduceAdd, Nat.reduceSub, Nat.reduceMul, Nat.reduceLeDiff, Nat.reduceLT, Int.reduceLT, Int.reduceLE, Int.reduceEq, Int.reduceToNat, reduceCtorEq, FB, ED, EF, FT, cx_spec_DrawGate, cl_spec_l01New, fsem_spec_l01New, cl_spec_l12Gate, fsem_spec_l12Gate, hb']
def placesRun : List Unit → Cur → List Int → List Int
  | [], _, out => out
  | _ :: n, c, out => placesRun n (belowF 10000 c).2 (out ++ [(belowF 10000 c).1])
theorem placesRun_len : ∀ {n : List Unit} {c : Cur} {out : List Int}, (placesRun n c out).length = out.length + n.length
  | [], _, _ => by simp [placesRun]
  | _ :: n, c, out => by simp only [placesRun, placesRun_len (n := n), List.length_append, List.length_cons, List.length_nil]; omega
theorem placesRun_bd : ∀ {n : List Unit} {c : Cur} {out : List Int}, (∀ x ∈ out, 0 ≤ x ∧ x < 10000) → ∀ x ∈ placesRun n c out, 0 ≤ x ∧ x < 10000
  | [], _, _, h => h
  | _ :: n, c, out, h => by
    simp only [placesRun]
    refine placesRun_bd fun x hx => ?_
    rcases List.mem_append.1 hx with hx | hx
    · exact h x hx
    · rw [List.mem_singleton] at hx; rw [hx]; exact belowF_bd (by decide)
def drawPlaces (bs : List UInt8) : List Int := placesRun (List.replicate 12 ()) (byteF (curNew bs)).2 []
theorem drawPlaces_len {bs : List UInt8} : (drawPlaces bs).length = 12 := by unfold drawPlaces; rw [placesRun_len]; rfl
theorem drawPlaces_bd {bs : List UInt8} : ∀ x ∈ drawPlaces bs, 0 ≤ x ∧ x < 10000 := placesRun_bd (by simp)
theorem loop_DrawPlaces (xs : List Unit) (hxs : xs.length = 12) (c0 : Cur) (out0 : List Int) (ho : out0.length ≤ 100) (hb : c0.b.length ≤ 1048576) : loopV X_spec_DrawPlaces 0 [3, 4, 5] [(1, [4])] B0_spec_DrawPlaces ⟨[(3, .ptr ⟨0, none, 0⟩ 3 0 0), (4, .sl ⟨1, none, 0⟩ 1 0 out0.length), (5, .int .i64 0)], [some ⟨true, 0, 3, [[.tree 1 (c0.b.map cY), .int .i64 (c0.i : Int), .int .i64 c0.h]]⟩, some ⟨false, 0, 1, out0.map cI⟩]⟩ = some (.exit 0, ⟨[(4, .sl ⟨0, none, 0⟩ 1 0 (placesRun xs c0 out0).length)], [some ⟨false, 0, 1, (placesRun xs c0 out0).map cI⟩]⟩) := by
  refine loop_list xs (fun i (a : Cur × List Int) => a.1.b.length ≤ 1048576 ∧ a.2.length ≤ 100 + i) (fun i a => ⟨[(3, .ptr ⟨0, none, 0⟩ 3 0 0), (4, .sl ⟨1, none, 0⟩ 1 0 a.2.length), (5, .int .i64 ((i : Nat) : Int))], [some ⟨true, 0, 3, [[.tree 1 (a.1.b.map cY), .int .i64 (a.1.i : Int), .int .i64 a.1.h]]⟩, some ⟨false, 0, 1, a.2.map cI⟩]⟩)
    (fun rest a => some (.exit 0, ⟨[(4, .sl ⟨0, none, 0⟩ 1 0 (placesRun rest a.1 a.2).length)], [some ⟨false, 0, 1, (placesRun rest a.1 a.2).map cI⟩]⟩)) ?_ ?_ (c0, out0) ⟨hb, by simp only; omega⟩
  · rintro ⟨c, out⟩ ⟨hb, ho⟩
    have h12 : ((xs.length : Nat) : Int) = 12 := by omega
    rw [loopV_by B0_spec_DrawPlaces.eq_1]
    simp (maxSteps := 10000000) (disch := first | assumption | omega) only [EG, EL, ↓reduceIte, Nat.reduceEqDiff, Nat.reduceAdd, Nat.reduceSub, Nat.reduceMul, Nat.reduceLeDiff, Nat.reduceLT, Int.reduceLT, Int.reduceLE, Int.reduceEq, Int.reduceToNat, reduceCtorEq, FB, ED, EF, FT, cx_spec_DrawPlaces, h12, placesRun]
  · rintro i hi0 y rest ⟨c, out⟩ rfl rfl ⟨hb, ho⟩ ih
    simp only at hb ho ih
    have h12 : (i : Int) < 12 := by omega
    have hc : (out.length + 1) * 8 ≤ 70368744177664 := by omega
    have i1 := ih ((belowF 10000 c).2, out ++ [(belowF 10000 c).1]) ⟨by rw [belowF_b]; exact hb, by simp only [List.length_append, List.length_singleton]; omega⟩
    simp only [EG, EL, ↓reduceIte, Nat.reduceEqDiff, Nat.reduceAdd, Nat.reduceSub, Nat.reduceMul, Nat.reduceLeDiff, Nat.reduceLT, Int.reduceLT, Int.reduceLE, Int.reduceEq, Int.reduceToNat, reduceCtorEq, FB] at i1
    rw [loopV_by B0_spec_DrawPlaces.eq_1]
    simp (maxSteps := 10000000) (disch := first | assumption | omega) only [EG, EL, ↓reduceIte, Nat.reduceEqDiff, Nat.reduceAdd, Nat.reduceSub, Nat.reduceMul, Nat.reduceLeDiff, Nat.reduceLT, Int.reduceLT, Int.reduceLE, Int.reduceEq, Int.reduceToNat, reduceCtorEq, FB, ED, EF, FT, cx_spec_DrawPlaces, cl_spec_l01Below, fsem_spec_l01Below, h12, hc, wrap_succ, map_cI_snoc, placesRun, i1]
theorem sem_spec_DrawPlaces (bs : List UInt8) (hb : bs.length ≤ 1048576) : S_spec_DrawPlaces.sem [.tree 1 (bs.map cY)] = some (.tree 1 ((drawPlaces bs).map cI), []) := by
  have hb' : (curNew bs).b.length ≤ 1048576 := hb
  have hd : placesRun (List.replicate 12 ()) (byteF (curNew bs)).2 [] = drawPlaces bs := rfl
  have l := loop_DrawPlaces (List.replicate 12 ()) (by simp) (byteF (curNew bs)).2 [] (by simp) (by rw [byteF_b]; exact hb')
  rw [hd] at l
  simp only [List.map_nil, List.length_nil] at l
  rw [sg_spec_DrawPlaces, sem_go]
  simp (maxSteps := 10000000) (disch := first | assumption | omega) only [F_spec_DrawPlaces, params, EG, EL, ↓reduceIte, Nat.reduceEqDiff, Nat.reduceAdd, Nat.reduceSub, Nat.reduceMul, Nat.reduceLeDiff, Nat.reduceLT, Int.reduceLT, Int.reduceLE, Int.reduceEq, Int.reduceToNat, reduceCtorEq, FB, ED, EF, FT, cx_spec_DrawPlaces, cl_spec_l01New, fsem_spec_l01New, cl_spec_l01Byte, fsem_spec_l01Byte, hb', l]
theorem sem_laws_big (bs : List UInt8) : S_laws_big.sem [.tree 1 (bs.map cY)] = some (.bool (decide (1048576 < (bs.length : Int))), []) := by
  rw [sg_laws_big, sem_go]
  simp (maxSteps := 10000000) (disch := first | assumption | omega) only [F_laws_big, params, EG, EL, ↓reduceIte, Nat.reduceEqDiff, Nat.reduceAdd, Nat.reduceSub, Nat.reduceMul, Nat.reduceLeDiff, Nat.reduceLT, Int.reduceLT, Int.reduceLE, Int.reduceEq, Int.reduceToNat, reduceCtorEq, FB, ED, cx_laws_big, gt_iff_lt]
theorem sem_laws_in (xs : List Int) (x : Int) (hl : xs.length ≤ 140737488351232) : S_laws_in.sem [.tree 1 (xs.map cI), .int .i64 x] = some (.bool (decide (x ∈ xs)), []) := by
  have loop : loopV X_laws_in 0 [0, 1, 5] [(1, []), (0, [4])] B0_laws_in ⟨[(0, .tree 1 (xs.map cI)), (1, .int .i64 x), (5, .int .i64 0)], []⟩ = if x ∈ xs then some (.ret, ⟨[(4, .bool true)], []⟩) else some (.exit 0, ⟨[], []⟩) := by
    refine loop_list xs (fun _ (_ : Unit) => True) (fun i _ => ⟨[(0, .tree 1 (xs.map cI)), (1, .int .i64 x), (5, .int .i64 (i : Int))], []⟩) (fun rest _ => if x ∈ rest then some (.ret, ⟨[(4, .bool true)], []⟩) else some (.exit 0, ⟨[], []⟩)) ?_ ?_ () trivial
    · intro _ _
      rw [loopV_by B0_laws_in.eq_1]
      simp only [EG, EL, ↓reduceIte, Nat.reduceEqDiff, Nat.reduceAdd, Nat.reduceSub, Nat.reduceMul, Nat.reduceLeDiff, Nat.reduceLT, Int.reduceLT, Int.reduceLE, Int.reduceEq, Int.reduceToNat, reduceCtorEq, FB, int_lt_irrefl, List.not_mem_nil]
    · rintro i h y rest _ rfl rfl _ ih
      have hi : (i : Int) < (xs.length : Int) := by omega
      rw [loopV_by B0_laws_in.eq_1]
      simp (maxSteps := 10000000) (disch := first | assumption | omega) only [EG, EL, ↓reduceIte, Nat.reduceEqDiff, Nat.reduceAdd, Nat.reduceSub, Nat.reduceMul, Nat.reduceLeDiff, Nat.reduceLT, Int.reduceLT, Int.reduceLE, Int.reduceEq, Int.reduceToNat, reduceCtorEq, FB, hi, wrap_succ, getRow _ _ h, ih () trivial]
      by_cases h1 : xs[i] = x
      · simp [h1]
      · have h1' : ¬ x = xs[i] := fun e => h1 e.symm
        simp only [h1, h1', if_false, List.mem_cons, false_or]
  rw [sg_laws_in, sem_go]
  simp (maxSteps := 10000000) (disch := first | assumption | omega) only [F_laws_in, params, EG, EL, ↓reduceIte, Nat.reduceEqDiff, Nat.reduceAdd, Nat.reduceSub, Nat.reduceMul, Nat.reduceLeDiff, Nat.reduceLT, Int.reduceLT, Int.reduceLE, Int.reduceEq, Int.reduceToNat, reduceCtorEq, FB, loop]
  by_cases h : x ∈ xs <;> simp only [h, EG, EL, ↓reduceIte, Nat.reduceEqDiff, Nat.reduceAdd, Nat.reduceSub, Nat.reduceMul, Nat.reduceLeDiff, Nat.reduceLT, Int.reduceLT, Int.reduceLE, Int.reduceEq, Int.reduceToNat, reduceCtorEq, FB, decide_true, decide_false]
theorem arriveG_there {o : Int} {w q : List Int} {i : Int} (h : o = i ∨ i ∈ w ∨ i ∈ q) : arriveG ⟨o, w, q⟩ i = (⟨o, w, q⟩, false) := by
  unfold arriveG; rw [if_neg (fun hc => hc.2.2 h)]
theorem arriveG_in {w q : List Int} {i : Int} (hk : gateOk (-1) w q = true) (hi : 0 ≤ i ∧ i ≤ 3) (h : ¬ ((-1 : Int) = i ∨ i ∈ w ∨ i ∈ q)) : arriveG ⟨-1, w, q⟩ i = (⟨i, w, q⟩, true) := by
  unfold arriveG; rw [if_pos ⟨hk, hi, h⟩, if_pos rfl]
theorem arriveG_wait {o : Int} {w q : List Int} {i : Int} (hk : gateOk o w q = true) (ho : o ≠ -1) (hi : 0 ≤ i ∧ i ≤ 3) (h : ¬ (o = i ∨ i ∈ w ∨ i ∈ q)) : arriveG ⟨o, w, q⟩ i = (⟨o, w ++ [i], q⟩, false) := by
  unfold arriveG; rw [if_pos ⟨hk, hi, h⟩, if_neg ho]
theorem leaveG_none {w q : List Int} : leaveG ⟨-1, w, q⟩ = (⟨-1, w, q⟩, -1) := by
  unfold leaveG; rw [if_neg (fun hc => hc.2 rfl)]
theorem leaveG_nil {o : Int} {q : List Int} (hk : gateOk o [] q = true) (ho : o ≠ -1) : leaveG ⟨o, [], q⟩ = (⟨-1, [], q⟩, -1) := by
  unfold leaveG; rw [if_pos ⟨hk, ho⟩]; rfl
theorem gateOk_cons {o y : Int} {ys q : List Int} (hk : gateOk o (y :: ys) q = true) : o ≠ -1 := by
  rw [gateOk_iff] at hk
  rcases hk.2.2 with h | h
  · exact h
  · simp at h
theorem leaveG_cons {o y : Int} {ys q : List Int} (hk : gateOk o (y :: ys) q = true) : leaveG ⟨o, y :: ys, q⟩ = (⟨y, ys, q⟩, y) := by
  unfold leaveG; rw [if_pos ⟨hk, gateOk_cons hk⟩]; rfl
theorem gateOk_none {w q : List Int} (hk : gateOk (-1) w q = true) : w = [] := by
  rw [gateOk_iff] at hk
  rcases hk.2.2 with h | h
  · exact absurd rfl h
  · exact List.length_eq_zero_iff.1 h
set_option maxHeartbeats 4000000 in
theorem gates_there_nil_a (bs : List UInt8) (s0 : ¬ 1048576 < (bs.length : Int)) (o : Int) (q ps : List Int) (p0 who : Int) (e1 : S_spec_DrawGate.sem [.tree 1 (bs.map cY)] = some (.agg (cGate ⟨o, [], q⟩), [])) (e2 : S_spec_DrawPlaces.sem [.tree 1 (bs.map cY)] = some (.tree 1 (ps.map cI), [])) (h0 : 0 < ps.length) (g0 : (ps.map cI).getD 0 [] = cI p0) (hwho : p0.tmod 4 = who) (hl : ([] : List Int).length + q.length ≤ 1000)
  (i1 : S_impl_Arrive.sem [.agg (cGate ⟨o, [], q⟩), .int .i64 who] = some (.tup [.agg (cGate ⟨o, [], q⟩), .bool false], [])) (i2 : S_impl_Leave.sem [.agg (cGate ⟨o, [], q⟩)] = some (.tup [.agg (cGate ⟨-1, [], q⟩), .int .i64 (-1)], []))
  (i3 : S_impl_GateOk.sem [.agg (cGate ⟨o, [], q⟩)] = some (.bool true, [])) (i4 : S_impl_GateOk.sem [.agg (cGate ⟨o, [], q⟩)] = some (.bool true, [])) (i5 : S_impl_GateOk.sem [.agg (cGate ⟨-1, [], q⟩)] = some (.bool true, [])) (hm : (o < 0) = False) (hp : 0 ≤ o) (hA : (o = who) = True) :
  tru F_laws_FnGates.res (go X_laws_FnGates 0 [.c F_laws_FnGates.body] ⟨params 0 [.tree 1 (bs.map cY)], []⟩) := by
  have h0' : (0 : Int) < (ps.length : Int) := by omega
  try simp only [List.length_append, List.length_cons, List.length_nil] at hl
  have k1 := sem_laws_in ([]) who (by (try simp only [List.length_nil]); omega)
  have k2 := sem_laws_in q who (by omega)
  simp only [cGate, List.map_nil, List.map_cons, List.length_nil, List.length_cons, List.map_append] at e1 i1 i2 i3 i4 i5 k1 k2
  simp (maxSteps := 10000000) (disch := first | assumption | omega) only [F_laws_FnGates, params, EG, EL, ↓reduceIte, Nat.reduceEqDiff, Nat.reduceAdd, Nat.reduceSub, Nat.reduceMul, Nat.reduceLeDiff, Nat.reduceLT, Int.reduceLT, Int.reduceLE, Int.reduceEq, Int.reduceToNat, reduceCtorEq, FB, ED, EF, FT, cx_laws_FnGates, cl_laws_big, sem_laws_big, tru_ret, tru_ite, s0, cl_spec_DrawGate, e1, cl_spec_DrawPlaces, e2, g0, h0, h0', hwho, cl_impl_Arrive, i1, cl_impl_Leave, i2, cl_impl_GateOk, i3, i4, i5, cl_laws_in, k1, k2, hm, hp, hA]
set_option maxHeartbeats 4000000 in
theorem gates_there_cons_a (bs : List UInt8) (s0 : ¬ 1048576 < (bs.length : Int)) (o y : Int) (w t : List Int) (q ps : List Int) (p0 who : Int) (e1 : S_spec_DrawGate.sem [.tree 1 (bs.map cY)] = some (.agg (cGate ⟨o, w, q⟩), [])) (e2 : S_spec_DrawPlaces.sem [.tree 1 (bs.map cY)] = some (.tree 1 (ps.map cI), [])) (h0 : 0 < ps.length) (g0 : (ps.map cI).getD 0 [] = cI p0) (hwho : p0.tmod 4 = who) (hl : (w : List Int).length + q.length ≤ 1000)
  (i1 : S_impl_Arrive.sem [.agg (cGate ⟨o, w, q⟩), .int .i64 who] = some (.tup [.agg (cGate ⟨o, w, q⟩), .bool false], [])) (i2 : S_impl_Leave.sem [.agg (cGate ⟨o, w, q⟩)] = some (.tup [.agg (cGate ⟨y, t, q⟩), .int .i64 (y)], []))
  (i3 : S_impl_GateOk.sem [.agg (cGate ⟨o, w, q⟩)] = some (.bool true, [])) (i4 : S_impl_GateOk.sem [.agg (cGate ⟨o, w, q⟩)] = some (.bool true, [])) (i5 : S_impl_GateOk.sem [.agg (cGate ⟨y, t, q⟩)] = some (.bool true, [])) (hm : (o < 0) = False) (hp : 0 ≤ o) (hgw : (w.map cI).getD 0 [] = cI y) (hw0 : 0 < w.length) (hw1 : (0 : Int) < (w.length : Int)) (hx : IntKind.wrap .i64 ((w.length : Int) - 1) = (t.length : Int)) (hA : (o = who) = True) :
  tru F_laws_FnGates.res (go X_laws_FnGates 0 [.c F_laws_FnGates.body] ⟨params 0 [.tree 1 (bs.map cY)], []⟩) := by
  have h0' : (0 : Int) < (ps.length : Int) := by omega
  try simp only [List.length_append, List.length_cons, List.length_nil] at hl
  have k1 := sem_laws_in (w) who (by (try simp only [List.length_nil]); omega)
  have k2 := sem_laws_in q who (by omega)
  simp only [cGate, List.map_nil, List.map_cons, List.length_nil, List.length_cons, List.map_append] at e1 i1 i2 i3 i4 i5 k1 k2
  simp (maxSteps := 10000000) (disch := first | assumption | omega) only [F_laws_FnGates, params, EG, EL, ↓reduceIte, Nat.reduceEqDiff, Nat.reduceAdd, Nat.reduceSub, Nat.reduceMul, Nat.reduceLeDiff, Nat.reduceLT, Int.reduceLT, Int.reduceLE, Int.reduceEq, Int.reduceToNat, reduceCtorEq, FB, ED, EF, FT, cx_laws_FnGates, cl_laws_big, sem_laws_big, tru_ret, tru_ite, s0, cl_spec_DrawGate, e1, cl_spec_DrawPlaces, e2, g0, h0, h0', hwho, cl_impl_Arrive, i1, cl_impl_Leave, i2, cl_impl_GateOk, i3, i4, i5, cl_laws_in, k1, k2, hm, hp, hgw, hw0, hw1, hx, hA]
set_option maxHeartbeats 4000000 in
theorem gates_there_cons_b (bs : List UInt8) (s0 : ¬ 1048576 < (bs.length : Int)) (o y : Int) (w t : List Int) (q ps : List Int) (p0 who : Int) (e1 : S_spec_DrawGate.sem [.tree 1 (bs.map cY)] = some (.agg (cGate ⟨o, w, q⟩), [])) (e2 : S_spec_DrawPlaces.sem [.tree 1 (bs.map cY)] = some (.tree 1 (ps.map cI), [])) (h0 : 0 < ps.length) (g0 : (ps.map cI).getD 0 [] = cI p0) (hwho : p0.tmod 4 = who) (hl : (w : List Int).length + q.length ≤ 1000)
  (i1 : S_impl_Arrive.sem [.agg (cGate ⟨o, w, q⟩), .int .i64 who] = some (.tup [.agg (cGate ⟨o, w, q⟩), .bool false], [])) (i2 : S_impl_Leave.sem [.agg (cGate ⟨o, w, q⟩)] = some (.tup [.agg (cGate ⟨y, t, q⟩), .int .i64 (y)], []))
  (i3 : S_impl_GateOk.sem [.agg (cGate ⟨o, w, q⟩)] = some (.bool true, [])) (i4 : S_impl_GateOk.sem [.agg (cGate ⟨o, w, q⟩)] = some (.bool true, [])) (i5 : S_impl_GateOk.sem [.agg (cGate ⟨y, t, q⟩)] = some (.bool true, [])) (hm : (o < 0) = False) (hp : 0 ≤ o) (hgw : (w.map cI).getD 0 [] = cI y) (hw0 : 0 < w.length) (hw1 : (0 : Int) < (w.length : Int)) (hx : IntKind.wrap .i64 ((w.length : Int) - 1) = (t.length : Int)) (hA : (o = who) = False) (hB : (who ∈ (w : List Int)) = True) :
  tru F_laws_FnGates.res (go X_laws_FnGates 0 [.c F_laws_FnGates.body] ⟨params 0 [.tree 1 (bs.map cY)], []⟩) := by
  have h0' : (0 : Int) < (ps.length : Int) := by omega
  try simp only [List.length_append, List.length_cons, List.length_nil] at hl
  have k1 := sem_laws_in (w) who (by (try simp only [List.length_nil]); omega)
  have k2 := sem_laws_in q who (by omega)
  simp only [cGate, List.map_nil, List.map_cons, List.length_nil, List.length_cons, List.map_append] at e1 i1 i2 i3 i4 i5 k1 k2
  simp (maxSteps := 10000000) (disch := first | assumption | omega) only [F_laws_FnGates, params, EG, EL, ↓reduceIte, Nat.reduceEqDiff, Nat.reduceAdd, Nat.reduceSub, Nat.reduceMul, Nat.reduceLeDiff, Nat.reduceLT, Int.reduceLT, Int.reduceLE, Int.reduceEq, Int.reduceToNat, reduceCtorEq, FB, ED, EF, FT, cx_laws_FnGates, cl_laws_big, sem_laws_big, tru_ret, tru_ite, s0, cl_spec_DrawGate, e1, cl_spec_DrawPlaces, e2, g0, h0, h0', hwho, cl_impl_Arrive, i1, cl_impl_Leave, i2, cl_impl_GateOk, i3, i4, i5, cl_laws_in, k1, k2, hm, hp, hgw, hw0, hw1, hx, hA, hB]
set_option maxHeartbeats 4000000 in
theorem gates_there_none_c (bs : List UInt8) (s0 : ¬ 1048576 < (bs.length : Int))  (q ps : List Int) (p0 who : Int) (e1 : S_spec_DrawGate.sem [.tree 1 (bs.map cY)] = some (.agg (cGate ⟨-1, [], q⟩), [])) (e2 : S_spec_DrawPlaces.sem [.tree 1 (bs.map cY)] = some (.tree 1 (ps.map cI), [])) (h0 : 0 < ps.length) (g0 : (ps.map cI).getD 0 [] = cI p0) (hwho : p0.tmod 4 = who) (hl : ([] : List Int).length + q.length ≤ 1000)
  (i1 : S_impl_Arrive.sem [.agg (cGate ⟨-1, [], q⟩), .int .i64 who] = some (.tup [.agg (cGate ⟨-1, [], q⟩), .bool false], [])) (i2 : S_impl_Leave.sem [.agg (cGate ⟨-1, [], q⟩)] = some (.tup [.agg (cGate ⟨-1, [], q⟩), .int .i64 (-1)], []))
  (i3 : S_impl_GateOk.sem [.agg (cGate ⟨-1, [], q⟩)] = some (.bool true, [])) (i4 : S_impl_GateOk.sem [.agg (cGate ⟨-1, [], q⟩)] = some (.bool true, [])) (i5 : S_impl_GateOk.sem [.agg (cGate ⟨-1, [], q⟩)] = some (.bool true, [])) (hA : ((-1 : Int) = who) = False) (hB : (who ∈ ([] : List Int)) = False) (hC : (who ∈ q) = True) :
  tru F_laws_FnGates.res (go X_laws_FnGates 0 [.c F_laws_FnGates.body] ⟨params 0 [.tree 1 (bs.map cY)], []⟩) := by
  have h0' : (0 : Int) < (ps.length : Int) := by omega
  try simp only [List.length_append, List.length_cons, List.length_nil] at hl
  have k1 := sem_laws_in ([]) who (by (try simp only [List.length_nil]); omega)
  have k2 := sem_laws_in q who (by omega)
  simp only [cGate, List.map_nil, List.map_cons, List.length_nil, List.length_cons, List.map_append] at e1 i1 i2 i3 i4 i5 k1 k2
  simp (maxSteps := 10000000) (disch := first | assumption | omega) only [F_laws_FnGates, params, EG, EL, ↓reduceIte, Nat.reduceEqDiff, Nat.reduceAdd, Nat.reduceSub, Nat.reduceMul, Nat.reduceLeDiff, Nat.reduceLT, Int.reduceLT, Int.reduceLE, Int.reduceEq, Int.reduceToNat, reduceCtorEq, FB, ED, EF, FT, cx_laws_FnGates, cl_laws_big, sem_laws_big, tru_ret, tru_ite, s0, cl_spec_DrawGate, e1, cl_spec_DrawPlaces, e2, g0, h0, h0', hwho, cl_impl_Arrive, i1, cl_impl_Leave, i2, cl_impl_GateOk, i3, i4, i5, cl_laws_in, k1, k2, hA, hB, hC]
set_option maxHeartbeats 4000000 in
theorem gates_there_nil_c (bs : List UInt8) (s0 : ¬ 1048576 < (bs.length : Int)) (o : Int) (q ps : List Int) (p0 who : Int) (e1 : S_spec_DrawGate.sem [.tree 1 (bs.map cY)] = some (.agg (cGate ⟨o, [], q⟩), [])) (e2 : S_spec_DrawPlaces.sem [.tree 1 (bs.map cY)] = some (.tree 1 (ps.map cI), [])) (h0 : 0 < ps.length) (g0 : (ps.map cI).getD 0 [] = cI p0) (hwho : p0.tmod 4 = who) (hl : ([] : List Int).length + q.length ≤ 1000)
  (i1 : S_impl_Arrive.sem [.agg (cGate ⟨o, [], q⟩), .int .i64 who] = some (.tup [.agg (cGate ⟨o, [], q⟩), .bool false], [])) (i2 : S_impl_Leave.sem [.agg (cGate ⟨o, [], q⟩)] = some (.tup [.agg (cGate ⟨-1, [], q⟩), .int .i64 (-1)], []))
  (i3 : S_impl_GateOk.sem [.agg (cGate ⟨o, [], q⟩)] = some (.bool true, [])) (i4 : S_impl_GateOk.sem [.agg (cGate ⟨o, [], q⟩)] = some (.bool true, [])) (i5 : S_impl_GateOk.sem [.agg (cGate ⟨-1, [], q⟩)] = some (.bool true, [])) (hm : (o < 0) = False) (hp : 0 ≤ o) (hA : (o = who) = False) (hB : (who ∈ ([] : List Int)) = False) (hC : (who ∈ q) = True) :
  tru F_laws_FnGates.res (go X_laws_FnGates 0 [.c F_laws_FnGates.body] ⟨params 0 [.tree 1 (bs.map cY)], []⟩) := by
  have h0' : (0 : Int) < (ps.length : Int) := by omega
  try simp only [List.length_append, List.length_cons, List.length_nil] at hl
  have k1 := sem_laws_in ([]) who (by (try simp only [List.length_nil]); omega)
  have k2 := sem_laws_in q who (by omega)
  simp only [cGate, List.map_nil, List.map_cons, List.length_nil, List.length_cons, List.map_append] at e1 i1 i2 i3 i4 i5 k1 k2
  simp (maxSteps := 10000000) (disch := first | assumption | omega) only [F_laws_FnGates, params, EG, EL, ↓reduceIte, Nat.reduceEqDiff, Nat.reduceAdd, Nat.reduceSub, Nat.reduceMul, Nat.reduceLeDiff, Nat.reduceLT, Int.reduceLT, Int.reduceLE, Int.reduceEq, Int.reduceToNat, reduceCtorEq, FB, ED, EF, FT, cx_laws_FnGates, cl_laws_big, sem_laws_big, tru_ret, tru_ite, s0, cl_spec_DrawGate, e1, cl_spec_DrawPlaces, e2, g0, h0, h0', hwho, cl_impl_Arrive, i1, cl_impl_Leave, i2, cl_impl_GateOk, i3, i4, i5, cl_laws_in, k1, k2, hm, hp, hA, hB, hC]
set_option maxHeartbeats 4000000 in
theorem gates_there_cons_c (bs : List UInt8) (s0 : ¬ 1048576 < (bs.length : Int)) (o y : Int) (w t : List Int) (q ps : List Int) (p0 who : Int) (e1 : S_spec_DrawGate.sem [.tree 1 (bs.map cY)] = some (.agg (cGate ⟨o, w, q⟩), [])) (e2 : S_spec_DrawPlaces.sem [.tree 1 (bs.map cY)] = some (.tree 1 (ps.map cI), [])) (h0 : 0 < ps.length) (g0 : (ps.map cI).getD 0 [] = cI p0) (hwho : p0.tmod 4 = who) (hl : (w : List Int).length + q.length ≤ 1000)
  (i1 : S_impl_Arrive.sem [.agg (cGate ⟨o, w, q⟩), .int .i64 who] = some (.tup [.agg (cGate ⟨o, w, q⟩), .bool false], [])) (i2 : S_impl_Leave.sem [.agg (cGate ⟨o, w, q⟩)] = some (.tup [.agg (cGate ⟨y, t, q⟩), .int .i64 (y)], []))
  (i3 : S_impl_GateOk.sem [.agg (cGate ⟨o, w, q⟩)] = some (.bool true, [])) (i4 : S_impl_GateOk.sem [.agg (cGate ⟨o, w, q⟩)] = some (.bool true, [])) (i5 : S_impl_GateOk.sem [.agg (cGate ⟨y, t, q⟩)] = some (.bool true, [])) (hm : (o < 0) = False) (hp : 0 ≤ o) (hgw : (w.map cI).getD 0 [] = cI y) (hw0 : 0 < w.length) (hw1 : (0 : Int) < (w.length : Int)) (hx : IntKind.wrap .i64 ((w.length : Int) - 1) = (t.length : Int)) (hA : (o = who) = False) (hB : (who ∈ (w : List Int)) = False) (hC : (who ∈ q) = True) :
  tru F_laws_FnGates.res (go X_laws_FnGates 0 [.c F_laws_FnGates.body] ⟨params 0 [.tree 1 (bs.map cY)], []⟩) := by
  have h0' : (0 : Int) < (ps.length : Int) := by omega
  try simp only [List.length_append, List.length_cons, List.length_nil] at hl
  have k1 := sem_laws_in (w) who (by (try simp only [List.length_nil]); omega)
  have k2 := sem_laws_in q who (by omega)
  simp only [cGate, List.map_nil, List.map_cons, List.length_nil, List.length_cons, List.map_append] at e1 i1 i2 i3 i4 i5 k1 k2
  simp (maxSteps := 10000000) (disch := first | assumption | omega) only [F_laws_FnGates, params, EG, EL, ↓reduceIte, Nat.reduceEqDiff, Nat.reduceAdd, Nat.reduceSub, Nat.reduceMul, Nat.reduceLeDiff, Nat.reduceLT, Int.reduceLT, Int.reduceLE, Int.reduceEq, Int.reduceToNat, reduceCtorEq, FB, ED, EF, FT, cx_laws_FnGates, cl_laws_big, sem_laws_big, tru_ret, tru_ite, s0, cl_spec_DrawGate, e1, cl_spec_DrawPlaces, e2, g0, h0, h0', hwho, cl_impl_Arrive, i1, cl_impl_Leave, i2, cl_impl_GateOk, i3, i4, i5, cl_laws_in, k1, k2, hm, hp, hgw, hw0, hw1, hx, hA, hB, hC]
set_option maxHeartbeats 4000000 in
theorem gates_in (bs : List UInt8) (s0 : ¬ 1048576 < (bs.length : Int))  (q ps : List Int) (p0 who : Int) (e1 : S_spec_DrawGate.sem [.tree 1 (bs.map cY)] = some (.agg (cGate ⟨-1, [], q⟩), [])) (e2 : S_spec_DrawPlaces.sem [.tree 1 (bs.map cY)] = some (.tree 1 (ps.map cI), [])) (h0 : 0 < ps.length) (g0 : (ps.map cI).getD 0 [] = cI p0) (hwho : p0.tmod 4 = who) (hl : ([] : List Int).length + q.length ≤ 1000)
  (i1 : S_impl_Arrive.sem [.agg (cGate ⟨-1, [], q⟩), .int .i64 who] = some (.tup [.agg (cGate ⟨who, [], q⟩), .bool true], [])) (i2 : S_impl_Leave.sem [.agg (cGate ⟨who, [], q⟩)] = some (.tup [.agg (cGate ⟨-1, [], q⟩), .int .i64 (-1)], []))
  (i3 : S_impl_GateOk.sem [.agg (cGate ⟨-1, [], q⟩)] = some (.bool true, [])) (i4 : S_impl_GateOk.sem [.agg (cGate ⟨who, [], q⟩)] = some (.bool true, [])) (i5 : S_impl_GateOk.sem [.agg (cGate ⟨-1, [], q⟩)] = some (.bool true, [])) (hp : 0 ≤ who) (hA : ((-1 : Int) = who) = False) (hB : (who ∈ ([] : List Int)) = False) (hC : (who ∈ q) = False) :
  tru F_laws_FnGates.res (go X_laws_FnGates 0 [.c F_laws_FnGates.body] ⟨params 0 [.tree 1 (bs.map cY)], []⟩) := by
  have h0' : (0 : Int) < (ps.length : Int) := by omega
  try simp only [List.length_append, List.length_cons, List.length_nil] at hl
  have k1 := sem_laws_in ([]) who (by (try simp only [List.length_nil]); omega)
  have k2 := sem_laws_in q who (by omega)
  simp only [cGate, List.map_nil, List.map_cons, List.length_nil, List.length_cons, List.map_append] at e1 i1 i2 i3 i4 i5 k1 k2
  simp (maxSteps := 10000000) (disch := first | assumption | omega) only [F_laws_FnGates, params, EG, EL, ↓reduceIte, Nat.reduceEqDiff, Nat.reduceAdd, Nat.reduceSub, Nat.reduceMul, Nat.reduceLeDiff, Nat.reduceLT, Int.reduceLT, Int.reduceLE, Int.reduceEq, Int.reduceToNat, reduceCtorEq, FB, ED, EF, FT, cx_laws_FnGates, cl_laws_big, sem_laws_big, tru_ret, tru_ite, s0, cl_spec_DrawGate, e1, cl_spec_DrawPlaces, e2, g0, h0, h0', hwho, cl_impl_Arrive, i1, cl_impl_Leave, i2, cl_impl_GateOk, i3, i4, i5, cl_laws_in, k1, k2, hp, hA, hB, hC]
set_option maxHeartbeats 4000000 in
theorem gates_wait (bs : List UInt8) (s0 : ¬ 1048576 < (bs.length : Int)) (o y : Int) (w v t : List Int) (q ps : List Int) (p0 who : Int) (e1 : S_spec_DrawGate.sem [.tree 1 (bs.map cY)] = some (.agg (cGate ⟨o, w, q⟩), [])) (e2 : S_spec_DrawPlaces.sem [.tree 1 (bs.map cY)] = some (.tree 1 (ps.map cI), [])) (h0 : 0 < ps.length) (g0 : (ps.map cI).getD 0 [] = cI p0) (hwho : p0.tmod 4 = who) (hl : (w : List Int).length + q.length ≤ 1000)
  (i1 : S_impl_Arrive.sem [.agg (cGate ⟨o, w, q⟩), .int .i64 who] = some (.tup [.agg (cGate ⟨o, v, q⟩), .bool false], [])) (i2 : S_impl_Leave.sem [.agg (cGate ⟨o, v, q⟩)] = some (.tup [.agg (cGate ⟨y, t, q⟩), .int .i64 (y)], []))
  (i3 : S_impl_GateOk.sem [.agg (cGate ⟨o, w, q⟩)] = some (.bool true, [])) (i4 : S_impl_GateOk.sem [.agg (cGate ⟨o, v, q⟩)] = some (.bool true, [])) (i5 : S_impl_GateOk.sem [.agg (cGate ⟨y, t, q⟩)] = some (.bool true, [])) (hm : (o < 0) = False) (hp : 0 ≤ o) (hgw : (v.map cI).getD 0 [] = cI y) (hgl : (v.map cI).getD w.length [] = cI who) (hw0 : 0 < v.length) (hw1 : (0 : Int) < (v.length : Int)) (hw2 : w.length < v.length) (hw3 : (w.length : Int) < (v.length : Int)) (hx : IntKind.wrap .i64 ((v.length : Int) - 1) = (w.length : Int)) (hy : IntKind.wrap .i64 ((w.length : Int) + 1) = (v.length : Int)) (ht : (t.length : Int) = (w.length : Int)) (hv : v.length ≤ 1001) (hz : t.length ≤ 1001) (hA : (o = who) = False) (hB : (who ∈ (w : List Int)) = False) (hC : (who ∈ q) = False) :
  tru F_laws_FnGates.res (go X_laws_FnGates 0 [.c F_laws_FnGates.body] ⟨params 0 [.tree 1 (bs.map cY)], []⟩) := by
  have h0' : (0 : Int) < (ps.length : Int) := by omega
  try simp only [List.length_append, List.length_cons, List.length_nil] at hl
  have k1 := sem_laws_in (w) who (by (try simp only [List.length_nil]); omega)
  have k2 := sem_laws_in q who (by omega)
  simp only [cGate, List.map_nil, List.map_cons, List.length_nil, List.length_cons, List.map_append] at e1 i1 i2 i3 i4 i5 k1 k2
  simp (maxSteps := 10000000) (disch := first | assumption | omega) only [F_laws_FnGates, params, EG, EL, ↓reduceIte, Nat.reduceEqDiff, Nat.reduceAdd, Nat.reduceSub, Nat.reduceMul, Nat.reduceLeDiff, Nat.reduceLT, Int.reduceLT, Int.reduceLE, Int.reduceEq, Int.reduceToNat, reduceCtorEq, FB, ED, EF, FT, cx_laws_FnGates, cl_laws_big, sem_laws_big, tru_ret, tru_ite, s0, cl_spec_DrawGate, e1, cl_spec_DrawPlaces, e2, g0, h0, h0', hwho, cl_impl_Arrive, i1, cl_impl_Leave, i2, cl_impl_GateOk, i3, i4, i5, cl_laws_in, k1, k2, hm, hp, hgw, hgl, hw0, hw1, hw2, hw3, hx, hy, ht, hv, hz, hA, hB, hC]
theorem law_FnGates (bs : List UInt8) (hb : bs.length ≤ 140737488351232) : tru F_laws_FnGates.res (go X_laws_FnGates 0 [.c F_laws_FnGates.body] ⟨params 0 [.tree 1 (bs.map cY)], []⟩) := by
  by_cases s0 : 1048576 < (bs.length : Int)
  · simp (maxSteps := 10000000) (disch := first | assumption | omega) only [F_laws_FnGates, params, EG, EL, ↓reduceIte, Nat.reduceEqDiff, Nat.reduceAdd, Nat.reduceSub, Nat.reduceMul, Nat.reduceLeDiff, Nat.reduceLT, Int.reduceLT, Int.reduceLE, Int.reduceEq, Int.reduceToNat, reduceCtorEq, FB, ED, EF, FT, cx_laws_FnGates, cl_laws_big, sem_laws_big, tru_ret, tru_ite, s0]
  · have hb' : bs.length ≤ 1048576 := by omega
    have gk := @drawGate_ok (curNew bs)
    have gl := @drawGate_len (curNew bs)
    have e1 := sem_spec_DrawGate bs hb'
    generalize (drawGate (curNew bs)).1 = g at gk gl e1
    obtain ⟨o, w, q⟩ := g
    have pl := @drawPlaces_len bs
    have pb := @drawPlaces_bd bs
    have e2 := sem_spec_DrawPlaces bs hb'
    generalize drawPlaces bs = ps at pl pb e2
    have h0 : 0 < ps.length := by omega
    have g0 := getRow cI ps h0
    have pb0 := pb ps[0] (List.getElem_mem h0)
    generalize ps[0] = p0 at g0 pb0
    have tw := @tmod_bd p0 4 pb0.1 (by decide)
    generalize hwho : p0.tmod 4 = who at tw
    have hr : 0 ≤ who ∧ who ≤ 3 := by omega
    simp only at gk gl
    have ak := ok_arrive (i := who) (x := ⟨o, w, q⟩) gk
    have bk := ok_leave ak
    have al := @len_arrive ⟨o, w, q⟩ who
    have bl := @len_leave (arriveG ⟨o, w, q⟩ who).1
    have i1 := sem_impl_Arrive ⟨o, w, q⟩ (by simp only; omega) who
    have i2 := sem_impl_Leave (arriveG ⟨o, w, q⟩ who).1 (by simp only at al; omega)
    have i3 := sem_impl_GateOk ⟨o, w, q⟩ (by simp only; omega)
    have i4 := sem_impl_GateOk (arriveG ⟨o, w, q⟩ who).1 (by simp only at al; omega)
    have i5 := sem_impl_GateOk (leaveG (arriveG ⟨o, w, q⟩ who).1).1 (by simp only at al; omega)
    have ho := gateOk_range gk
    rw [gk] at i3
    rw [ak] at i4
    rw [bk] at i5
    by_cases hT : o = who ∨ who ∈ w ∨ who ∈ q
    · have ha := arriveG_there hT
      rw [ha] at ak bk i1 i2 i4 i5
      by_cases h1 : o = -1
      · subst h1
        have hw := gateOk_none gk
        subst hw
        rw [leaveG_none] at i2 i5
        have hA : ((-1 : Int) = who) = False := eq_false (by omega)
        have hB : (who ∈ ([] : List Int)) = False := eq_false (by simp)
        have hC : (who ∈ q) = True := eq_true (by rw [hA, hB] at hT; simpa using hT)
        exact gates_there_none_c bs s0 q ps p0 who e1 e2 h0 g0 hwho (by simp only [List.length_nil]; omega) i1 i2 i3 i4 i5 hA hB hC
      · have hm : (o < 0) = False := eq_false (by omega)
        have hp : 0 ≤ o := by omega
        cases w with
        | nil =>
          rw [leaveG_nil gk h1] at i2 i5
          by_cases hA : o = who
          · exact gates_there_nil_a bs s0 o q ps p0 who e1 e2 h0 g0 hwho (by simp only [List.length_nil]; omega) i1 i2 i3 i4 i5 hm hp (eq_true hA)
          · have hB : (who ∈ ([] : List Int)) = False := eq_false (by simp)
            have hC : (who ∈ q) = True := eq_true (by simpa [hA] using hT)
            exact gates_there_nil_c bs s0 o q ps p0 who e1 e2 h0 g0 hwho (by simp only [List.length_nil]; omega) i1 i2 i3 i4 i5 hm hp (eq_false hA) hB hC
        | cons y ys =>
          rw [leaveG_cons gk] at i2 i5
          simp only [List.length_cons] at gl
          have hx : IntKind.wrap .i64 (((y :: ys).length : Int) - 1) = (ys.length : Int) := by
            simp only [List.length_cons]
            rw [wrapI (by omega) (by omega)]; omega
          have hl : (y :: ys : List Int).length + q.length ≤ 1000 := by simp only [List.length_cons]; omega
          have hw0 : 0 < (y :: ys : List Int).length := by simp
          have hw1 : (0 : Int) < ((y :: ys : List Int).length : Int) := by omega
          by_cases hA : o = who
          · exact gates_there_cons_a bs s0 o y (y :: ys) ys q ps p0 who e1 e2 h0 g0 hwho hl i1 i2 i3 i4 i5 hm hp rfl hw0 hw1 hx (eq_true hA)
          · by_cases hB : who ∈ y :: ys
            · exact gates_there_cons_b bs s0 o y (y :: ys) ys q ps p0 who e1 e2 h0 g0 hwho hl i1 i2 i3 i4 i5 hm hp rfl hw0 hw1 hx (eq_false hA) (eq_true hB)
            · have hC : who ∈ q := by
                rcases hT with h | h | h
                · exact absurd h hA
                · exact absurd h hB
                · exact h
              exact gates_there_cons_c bs s0 o y (y :: ys) ys q ps p0 who e1 e2 h0 g0 hwho hl i1 i2 i3 i4 i5 hm hp rfl hw0 hw1 hx (eq_false hA) (eq_false hB) (eq_true hC)
    · have hA : (o = who) = False := eq_false fun h => hT (.inl h)
      have hB : (who ∈ w) = False := eq_false fun h => hT (.inr (.inl h))
      have hC : (who ∈ q) = False := eq_false fun h => hT (.inr (.inr h))
      by_cases h1 : o = -1
      · subst h1
        have hw := gateOk_none gk
        subst hw
        have ha := arriveG_in gk hr hT
        rw [ha] at ak bk i1 i2 i4 i5
        rw [leaveG_nil (o := who) (q := q) ak (by omega)] at i2 i5
        exact gates_in bs s0 q ps p0 who e1 e2 h0 g0 hwho (by simp only [List.length_nil]; omega) i1 i2 i3 i4 i5 hr.1 hA hB hC
      · have hm : (o < 0) = False := eq_false (by omega)
        have hp : 0 ≤ o := by omega
        have ha := arriveG_wait gk h1 hr hT
        rw [ha] at ak bk i1 i2 i4 i5
        obtain ⟨y, t, hv⟩ : ∃ y t, w ++ [who] = y :: t := by
          cases w with
          | nil => exact ⟨who, [], rfl⟩
          | cons a b => exact ⟨a, b ++ [who], rfl⟩
        have hl2 : (w ++ [who]).length = w.length + 1 := by simp
        have hlt : t.length = w.length := by rw [hv] at hl2; simpa using hl2
        have hgl : ((w ++ [who]).map cI).getD w.length [] = cI who := by
          rw [getRow cI (w ++ [who]) (by omega)]
          simp
        have hgw : ((w ++ [who]).map cI).getD 0 [] = cI y := by rw [hv]; rfl
        have e3 : leaveG ⟨o, w ++ [who], q⟩ = (⟨y, t, q⟩, y) := by rw [hv] at ak ⊢; exact leaveG_cons ak
        rw [e3] at i2 i5
        refine gates_wait bs s0 o y w (w ++ [who]) t q ps p0 who e1 e2 h0 g0 hwho (by omega) i1 i2 i3 i4 i5 hm hp hgw hgl (by omega) (by omega) (by omega) (by omega) ?_ ?_ (by omega) (by omega) (by omega) hA hB hC
        · rw [hl2, wrapI (by omega) (by omega)]; omega
        · rw [hl2, wrapI (by omega) (by omega)]; omega

end Go.Proofs.Ytdbomppmpkjmhaa.AI
