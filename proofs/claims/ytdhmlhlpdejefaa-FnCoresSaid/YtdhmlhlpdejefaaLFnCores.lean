/- What these functions give, and that the law FnCores gives true. -/
import Derived.Test.YtdhmlhlpdejefaaCFnCores
namespace Go.Proofs.Ytdhmlhlpdejefaa.AI
open Go.Proofs
set_option linter.all false
set_option maxRecDepth 100000
structure DNode where
  Kind : Int
  Num : Int
  Name : ByteArray
  More : ByteArray
  To : ByteArray
  Kids : List (Int)
abbrev cNode (x : DNode) : List AV := [.int .i64 x.Kind, .int .i64 x.Num, .str x.Name, .str x.More, .str x.To, .tree 1 (x.Kids.map cI)]
def wtNode (x : DNode) : Nat := x.Name.size + x.More.size + x.To.size + x.Kids.length
def gdNode (x : DNode) : Prop := i64 x.Kind ∧ i64 x.Num ∧ gdS x.Name ∧ gdS x.More ∧ gdS x.To ∧ (x.Kids.length ≤ 140737488351232 ∧ ∀ y ∈ x.Kids, i64 y)
def mkNode (x : DNode) (k : Int) : DNode := { Kind := k, Num := (k + 1), Name := (mT ((k + 1) + 1)), More := (mT (((k + 1) + 1) + 1)), To := (mT ((((k + 1) + 1) + 1) + 1)), Kids := mkL mkI ct1 x.Kids (((((k + 1) + 1) + 1) + 1) + 1) }
def ctNode (x : DNode) : Nat := 1 + 1 + 1 + 1 + 1 + tot ct1 x.Kids
theorem ctle_Node (x : DNode) : ctNode x ≤ 5 * (1 + wtNode x) := by
  have h0 := tot_ct1 x.Kids
  unfold ctNode
  simp only [wtNode] at *
  omega
theorem tctle_Node (xs : List DNode) : tot ctNode xs ≤ 5 * (xs.length + tot wtNode xs) := tot_ct_le ctle_Node xs
def mwNode (x : DNode) (k : Int) : DNode := { Kind := x.Kind, Num := x.Num, Name := x.Name, More := x.More, To := x.To, Kids := mkL mkI ct1 x.Kids k }
def cwNode (x : DNode) : Nat := tot ct1 x.Kids
theorem set_cNode {xs : List DNode} {n : Nat} {x : DNode} : (xs.map cNode).set n [.int .i64 x.Kind, .int .i64 x.Num, .str x.Name, .str x.More, .str x.To, .tree 1 (x.Kids.map cI)] = (xs.set n x).map cNode := by rw [List.map_set]
theorem snoc_cNode {xs : List DNode} {x : DNode} : xs.map cNode ++ [[.int .i64 x.Kind, .int .i64 x.Num, .str x.Name, .str x.More, .str x.To, .tree 1 (x.Kids.map cI)]] = (xs ++ [x]).map cNode := by simp
theorem solid_cNode {xs : List DNode} : solid (xs.map cNode) = true := solid_map fun _ => rfl
structure DEntry where
  Name : ByteArray
  Param : ByteArray
  Body : Int
abbrev cEntry (x : DEntry) : List AV := [.str x.Name, .str x.Param, .int .i64 x.Body]
def wtEntry (x : DEntry) : Nat := x.Name.size + x.Param.size
def gdEntry (x : DEntry) : Prop := gdS x.Name ∧ gdS x.Param ∧ i64 x.Body
def mkEntry (x : DEntry) (k : Int) : DEntry := { Name := (mT k), Param := (mT (k + 1)), Body := ((k + 1) + 1) }
def ctEntry (x : DEntry) : Nat := 1 + 1 + 1
theorem ctle_Entry (x : DEntry) : ctEntry x ≤ 3 * (1 + wtEntry x) := by
  unfold ctEntry
  simp only [wtEntry] at *
  omega
theorem tctle_Entry (xs : List DEntry) : tot ctEntry xs ≤ 3 * (xs.length + tot wtEntry xs) := tot_ct_le ctle_Entry xs
theorem flat_cEntry {xs : List DEntry} : flat (xs.map cEntry) = true := flat_map fun _ => rfl
theorem set_cEntry {xs : List DEntry} {n : Nat} {x : DEntry} : (xs.map cEntry).set n [.str x.Name, .str x.Param, .int .i64 x.Body] = (xs.set n x).map cEntry := by rw [List.map_set]
theorem snoc_cEntry {xs : List DEntry} {x : DEntry} : xs.map cEntry ++ [[.str x.Name, .str x.Param, .int .i64 x.Body]] = (xs ++ [x]).map cEntry := by simp
theorem solid_cEntry {xs : List DEntry} : solid (xs.map cEntry) = true := solid_map fun _ => rfl
structure DMonitor where
  Name : ByteArray
  Vars : List (ByteArray)
  Queues : List (ByteArray)
  Entries : List (DEntry)
abbrev cMonitor (x : DMonitor) : List AV := [.str x.Name, .tree 1 (x.Vars.map cS), .tree 1 (x.Queues.map cS), .tree 3 (x.Entries.map cEntry)]
def wtMonitor (x : DMonitor) : Nat := x.Name.size + (x.Vars.length + tot wtS x.Vars) + (x.Queues.length + tot wtS x.Queues) + (x.Entries.length + tot wtEntry x.Entries)
def gdMonitor (x : DMonitor) : Prop := gdS x.Name ∧ (x.Vars.length ≤ 140737488351232 ∧ ∀ y ∈ x.Vars, gdS y) ∧ (x.Queues.length ≤ 140737488351232 ∧ ∀ y ∈ x.Queues, gdS y) ∧ (x.Entries.length ≤ 140737488351232 ∧ ∀ y ∈ x.Entries, gdEntry y)
def mkMonitor (x : DMonitor) (k : Int) : DMonitor := { Name := (mT k), Vars := mkL mkS ct1 x.Vars (k + 1), Queues := mkL mkS ct1 x.Queues ((k + 1) + (tot ct1 x.Vars : Nat)), Entries := mkL mkEntry ctEntry x.Entries (((k + 1) + (tot ct1 x.Vars : Nat)) + (tot ct1 x.Queues : Nat)) }
def ctMonitor (x : DMonitor) : Nat := 1 + tot ct1 x.Vars + tot ct1 x.Queues + tot ctEntry x.Entries
theorem ctle_Monitor (x : DMonitor) : ctMonitor x ≤ 3 * (1 + wtMonitor x) := by
  have h0 := tot_ct1 x.Vars
  have h1 := tot_ct1 x.Queues
  have h2 := tctle_Entry x.Entries
  unfold ctMonitor
  simp only [wtMonitor] at *
  omega
theorem tctle_Monitor (xs : List DMonitor) : tot ctMonitor xs ≤ 3 * (xs.length + tot wtMonitor xs) := tot_ct_le ctle_Monitor xs
def mwMonitor (x : DMonitor) (k : Int) : DMonitor := { Name := x.Name, Vars := mkL mkS ct1 x.Vars k, Queues := mkL mkS ct1 x.Queues (k + (tot ct1 x.Vars : Nat)), Entries := mkL mkEntry ctEntry x.Entries ((k + (tot ct1 x.Vars : Nat)) + (tot ct1 x.Queues : Nat)) }
def cwMonitor (x : DMonitor) : Nat := tot ct1 x.Vars + tot ct1 x.Queues + tot ctEntry x.Entries
theorem set_cMonitor {xs : List DMonitor} {n : Nat} {x : DMonitor} : (xs.map cMonitor).set n [.str x.Name, .tree 1 (x.Vars.map cS), .tree 1 (x.Queues.map cS), .tree 3 (x.Entries.map cEntry)] = (xs.set n x).map cMonitor := by rw [List.map_set]
theorem snoc_cMonitor {xs : List DMonitor} {x : DMonitor} : xs.map cMonitor ++ [[.str x.Name, .tree 1 (x.Vars.map cS), .tree 1 (x.Queues.map cS), .tree 3 (x.Entries.map cEntry)]] = (xs ++ [x]).map cMonitor := by simp
theorem solid_cMonitor {xs : List DMonitor} : solid (xs.map cMonitor) = true := solid_map fun _ => rfl
structure DProcess where
  Name : ByteArray
  Uses : List (ByteArray)
  Vars : List (ByteArray)
  Body : Int
abbrev cProcess (x : DProcess) : List AV := [.str x.Name, .tree 1 (x.Uses.map cS), .tree 1 (x.Vars.map cS), .int .i64 x.Body]
def wtProcess (x : DProcess) : Nat := x.Name.size + (x.Uses.length + tot wtS x.Uses) + (x.Vars.length + tot wtS x.Vars)
def gdProcess (x : DProcess) : Prop := gdS x.Name ∧ (x.Uses.length ≤ 140737488351232 ∧ ∀ y ∈ x.Uses, gdS y) ∧ (x.Vars.length ≤ 140737488351232 ∧ ∀ y ∈ x.Vars, gdS y) ∧ i64 x.Body
def mkProcess (x : DProcess) (k : Int) : DProcess := { Name := (mT k), Uses := mkL mkS ct1 x.Uses (k + 1), Vars := mkL mkS ct1 x.Vars ((k + 1) + (tot ct1 x.Uses : Nat)), Body := (((k + 1) + (tot ct1 x.Uses : Nat)) + (tot ct1 x.Vars : Nat)) }
def ctProcess (x : DProcess) : Nat := 1 + tot ct1 x.Uses + tot ct1 x.Vars + 1
theorem ctle_Process (x : DProcess) : ctProcess x ≤ 2 * (1 + wtProcess x) := by
  have h0 := tot_ct1 x.Uses
  have h1 := tot_ct1 x.Vars
  unfold ctProcess
  simp only [wtProcess] at *
  omega
theorem tctle_Process (xs : List DProcess) : tot ctProcess xs ≤ 2 * (xs.length + tot wtProcess xs) := tot_ct_le ctle_Process xs
def mwProcess (x : DProcess) (k : Int) : DProcess := { Name := x.Name, Uses := mkL mkS ct1 x.Uses k, Vars := mkL mkS ct1 x.Vars (k + (tot ct1 x.Uses : Nat)), Body := x.Body }
def cwProcess (x : DProcess) : Nat := tot ct1 x.Uses + tot ct1 x.Vars
theorem set_cProcess {xs : List DProcess} {n : Nat} {x : DProcess} : (xs.map cProcess).set n [.str x.Name, .tree 1 (x.Uses.map cS), .tree 1 (x.Vars.map cS), .int .i64 x.Body] = (xs.set n x).map cProcess := by rw [List.map_set]
theorem snoc_cProcess {xs : List DProcess} {x : DProcess} : xs.map cProcess ++ [[.str x.Name, .tree 1 (x.Uses.map cS), .tree 1 (x.Vars.map cS), .int .i64 x.Body]] = (xs ++ [x]).map cProcess := by simp
theorem solid_cProcess {xs : List DProcess} : solid (xs.map cProcess) = true := solid_map fun _ => rfl
structure DProgram where
  Nodes : List (DNode)
  Monitors : List (DMonitor)
  Processes : List (DProcess)
abbrev cProgram (x : DProgram) : List AV := [.tree 6 (x.Nodes.map cNode), .tree 4 (x.Monitors.map cMonitor), .tree 4 (x.Processes.map cProcess)]
def wtProgram (x : DProgram) : Nat := (x.Nodes.length + tot wtNode x.Nodes) + (x.Monitors.length + tot wtMonitor x.Monitors) + (x.Processes.length + tot wtProcess x.Processes)
def gdProgram (x : DProgram) : Prop := (x.Nodes.length ≤ 140737488351232 ∧ ∀ y ∈ x.Nodes, gdNode y) ∧ (x.Monitors.length ≤ 140737488351232 ∧ ∀ y ∈ x.Monitors, gdMonitor y) ∧ (x.Processes.length ≤ 140737488351232 ∧ ∀ y ∈ x.Processes, gdProcess y)
def mkProgram (x : DProgram) (k : Int) : DProgram := { Nodes := mkL mkNode ctNode x.Nodes k, Monitors := mkL mkMonitor ctMonitor x.Monitors (k + (tot ctNode x.Nodes : Nat)), Processes := mkL mkProcess ctProcess x.Processes ((k + (tot ctNode x.Nodes : Nat)) + (tot ctMonitor x.Monitors : Nat)) }
def ctProgram (x : DProgram) : Nat := tot ctNode x.Nodes + tot ctMonitor x.Monitors + tot ctProcess x.Processes
theorem ctle_Program (x : DProgram) : ctProgram x ≤ 5 * (1 + wtProgram x) := by
  have h0 := tctle_Node x.Nodes
  have h1 := tctle_Monitor x.Monitors
  have h2 := tctle_Process x.Processes
  unfold ctProgram
  simp only [wtProgram] at *
  omega
theorem tctle_Program (xs : List DProgram) : tot ctProgram xs ≤ 5 * (xs.length + tot wtProgram xs) := tot_ct_le ctle_Program xs
def mwProgram (x : DProgram) (k : Int) : DProgram := { Nodes := mkL mkNode ctNode x.Nodes k, Monitors := mkL mkMonitor ctMonitor x.Monitors (k + (tot ctNode x.Nodes : Nat)), Processes := mkL mkProcess ctProcess x.Processes ((k + (tot ctNode x.Nodes : Nat)) + (tot ctMonitor x.Monitors : Nat)) }
def cwProgram (x : DProgram) : Nat := tot ctNode x.Nodes + tot ctMonitor x.Monitors + tot ctProcess x.Processes
theorem set_cProgram {xs : List DProgram} {n : Nat} {x : DProgram} : (xs.map cProgram).set n [.tree 6 (x.Nodes.map cNode), .tree 4 (x.Monitors.map cMonitor), .tree 4 (x.Processes.map cProcess)] = (xs.set n x).map cProgram := by rw [List.map_set]
theorem snoc_cProgram {xs : List DProgram} {x : DProgram} : xs.map cProgram ++ [[.tree 6 (x.Nodes.map cNode), .tree 4 (x.Monitors.map cMonitor), .tree 4 (x.Processes.map cProcess)]] = (xs ++ [x]).map cProgram := by simp
theorem solid_cProgram {xs : List DProgram} : solid (xs.map cProgram) = true := solid_map fun _ => rfl
structure DGate where
  Owner : Int
  Waits : List (Int)
  Queues : List (Int)
abbrev cGate (x : DGate) : List AV := [.int .i64 x.Owner, .tree 1 (x.Waits.map cI), .tree 1 (x.Queues.map cI)]
def wtGate (x : DGate) : Nat := x.Waits.length + x.Queues.length
def gdGate (x : DGate) : Prop := i64 x.Owner ∧ (x.Waits.length ≤ 140737488351232 ∧ ∀ y ∈ x.Waits, i64 y) ∧ (x.Queues.length ≤ 140737488351232 ∧ ∀ y ∈ x.Queues, i64 y)
def mkGate (x : DGate) (k : Int) : DGate := { Owner := k, Waits := mkL mkI ct1 x.Waits (k + 1), Queues := mkL mkI ct1 x.Queues ((k + 1) + (tot ct1 x.Waits : Nat)) }
def ctGate (x : DGate) : Nat := 1 + tot ct1 x.Waits + tot ct1 x.Queues
theorem ctle_Gate (x : DGate) : ctGate x ≤ 1 * (1 + wtGate x) := by
  have h0 := tot_ct1 x.Waits
  have h1 := tot_ct1 x.Queues
  unfold ctGate
  simp only [wtGate] at *
  omega
theorem tctle_Gate (xs : List DGate) : tot ctGate xs ≤ 1 * (xs.length + tot wtGate xs) := tot_ct_le ctle_Gate xs
def mwGate (x : DGate) (k : Int) : DGate := { Owner := x.Owner, Waits := mkL mkI ct1 x.Waits k, Queues := mkL mkI ct1 x.Queues (k + (tot ct1 x.Waits : Nat)) }
def cwGate (x : DGate) : Nat := tot ct1 x.Waits + tot ct1 x.Queues
theorem set_cGate {xs : List DGate} {n : Nat} {x : DGate} : (xs.map cGate).set n [.int .i64 x.Owner, .tree 1 (x.Waits.map cI), .tree 1 (x.Queues.map cI)] = (xs.set n x).map cGate := by rw [List.map_set]
theorem snoc_cGate {xs : List DGate} {x : DGate} : xs.map cGate ++ [[.int .i64 x.Owner, .tree 1 (x.Waits.map cI), .tree 1 (x.Queues.map cI)]] = (xs ++ [x]).map cGate := by simp
theorem solid_cGate {xs : List DGate} : solid (xs.map cGate) = true := solid_map fun _ => rfl
structure DIns where
  Op : Int
  A : Int
  B : Int
  C : Int
abbrev cIns (x : DIns) : List AV := [.int .i64 x.Op, .int .i64 x.A, .int .i64 x.B, .int .i64 x.C]
def gdIns (x : DIns) : Prop := i64 x.Op ∧ i64 x.A ∧ i64 x.B ∧ i64 x.C
def mkIns (x : DIns) (k : Int) : DIns := { Op := k, A := (k + 1), B := ((k + 1) + 1), C := (((k + 1) + 1) + 1) }
def ctIns (x : DIns) : Nat := 1 + 1 + 1 + 1
theorem ctle_Ins (x : DIns) : ctIns x ≤ 4 := by
  unfold ctIns
  omega
theorem tctle_Ins (xs : List DIns) : tot ctIns xs ≤ 4 * xs.length := tot_ct_le0 ctle_Ins xs
theorem flat_cIns {xs : List DIns} : flat (xs.map cIns) = true := flat_map fun _ => rfl
theorem set_cIns {xs : List DIns} {n : Nat} {x : DIns} : (xs.map cIns).set n [.int .i64 x.Op, .int .i64 x.A, .int .i64 x.B, .int .i64 x.C] = (xs.set n x).map cIns := by rw [List.map_set]
theorem snoc_cIns {xs : List DIns} {x : DIns} : xs.map cIns ++ [[.int .i64 x.Op, .int .i64 x.A, .int .i64 x.B, .int .i64 x.C]] = (xs ++ [x]).map cIns := by simp
theorem solid_cIns {xs : List DIns} : solid (xs.map cIns) = true := solid_map fun _ => rfl
structure DCore where
  Regs : List (Int)
  Pc : Int
  Process : Int
abbrev cCore (x : DCore) : List AV := [.tree 1 (x.Regs.map cI), .int .i64 x.Pc, .int .i64 x.Process]
def wtCore (x : DCore) : Nat := x.Regs.length
def gdCore (x : DCore) : Prop := (x.Regs.length ≤ 140737488351232 ∧ ∀ y ∈ x.Regs, i64 y) ∧ i64 x.Pc ∧ i64 x.Process
def mkCore (x : DCore) (k : Int) : DCore := { Regs := mkL mkI ct1 x.Regs k, Pc := (k + (tot ct1 x.Regs : Nat)), Process := ((k + (tot ct1 x.Regs : Nat)) + 1) }
def ctCore (x : DCore) : Nat := tot ct1 x.Regs + 1 + 1
theorem ctle_Core (x : DCore) : ctCore x ≤ 2 * (1 + wtCore x) := by
  have h0 := tot_ct1 x.Regs
  unfold ctCore
  simp only [wtCore] at *
  omega
theorem tctle_Core (xs : List DCore) : tot ctCore xs ≤ 2 * (xs.length + tot wtCore xs) := tot_ct_le ctle_Core xs
def mwCore (x : DCore) (k : Int) : DCore := { Regs := mkL mkI ct1 x.Regs k, Pc := x.Pc, Process := x.Process }
def cwCore (x : DCore) : Nat := tot ct1 x.Regs
theorem set_cCore {xs : List DCore} {n : Nat} {x : DCore} : (xs.map cCore).set n [.tree 1 (x.Regs.map cI), .int .i64 x.Pc, .int .i64 x.Process] = (xs.set n x).map cCore := by rw [List.map_set]
theorem snoc_cCore {xs : List DCore} {x : DCore} : xs.map cCore ++ [[.tree 1 (x.Regs.map cI), .int .i64 x.Pc, .int .i64 x.Process]] = (xs ++ [x]).map cCore := by simp
theorem solid_cCore {xs : List DCore} : solid (xs.map cCore) = true := solid_map fun _ => rfl
structure DPlaces where
  Names : List (ByteArray)
  Ats : List (Int)
abbrev cPlaces (x : DPlaces) : List AV := [.tree 1 (x.Names.map cS), .tree 1 (x.Ats.map cI)]
def wtPlaces (x : DPlaces) : Nat := (x.Names.length + tot wtS x.Names) + x.Ats.length
def gdPlaces (x : DPlaces) : Prop := (x.Names.length ≤ 140737488351232 ∧ ∀ y ∈ x.Names, gdS y) ∧ (x.Ats.length ≤ 140737488351232 ∧ ∀ y ∈ x.Ats, i64 y)
def mkPlaces (x : DPlaces) (k : Int) : DPlaces := { Names := mkL mkS ct1 x.Names k, Ats := mkL mkI ct1 x.Ats (k + (tot ct1 x.Names : Nat)) }
def ctPlaces (x : DPlaces) : Nat := tot ct1 x.Names + tot ct1 x.Ats
theorem ctle_Places (x : DPlaces) : ctPlaces x ≤ 1 * (1 + wtPlaces x) := by
  have h0 := tot_ct1 x.Names
  have h1 := tot_ct1 x.Ats
  unfold ctPlaces
  simp only [wtPlaces] at *
  omega
theorem tctle_Places (xs : List DPlaces) : tot ctPlaces xs ≤ 1 * (xs.length + tot wtPlaces xs) := tot_ct_le ctle_Places xs
def mwPlaces (x : DPlaces) (k : Int) : DPlaces := { Names := mkL mkS ct1 x.Names k, Ats := mkL mkI ct1 x.Ats (k + (tot ct1 x.Names : Nat)) }
def cwPlaces (x : DPlaces) : Nat := tot ct1 x.Names + tot ct1 x.Ats
theorem set_cPlaces {xs : List DPlaces} {n : Nat} {x : DPlaces} : (xs.map cPlaces).set n [.tree 1 (x.Names.map cS), .tree 1 (x.Ats.map cI)] = (xs.set n x).map cPlaces := by rw [List.map_set]
theorem snoc_cPlaces {xs : List DPlaces} {x : DPlaces} : xs.map cPlaces ++ [[.tree 1 (x.Names.map cS), .tree 1 (x.Ats.map cI)]] = (xs ++ [x]).map cPlaces := by simp
theorem solid_cPlaces {xs : List DPlaces} : solid (xs.map cPlaces) = true := solid_map fun _ => rfl
structure DImage where
  Text : List (Int)
  Starts : List (Int)
  Size : Int
abbrev cImage (x : DImage) : List AV := [.tree 1 (x.Text.map cI), .tree 1 (x.Starts.map cI), .int .i64 x.Size]
def wtImage (x : DImage) : Nat := x.Text.length + x.Starts.length
def gdImage (x : DImage) : Prop := (x.Text.length ≤ 140737488351232 ∧ ∀ y ∈ x.Text, i64 y) ∧ (x.Starts.length ≤ 140737488351232 ∧ ∀ y ∈ x.Starts, i64 y) ∧ i64 x.Size
def mkImage (x : DImage) (k : Int) : DImage := { Text := mkL mkI ct1 x.Text k, Starts := mkL mkI ct1 x.Starts (k + (tot ct1 x.Text : Nat)), Size := ((k + (tot ct1 x.Text : Nat)) + (tot ct1 x.Starts : Nat)) }
def ctImage (x : DImage) : Nat := tot ct1 x.Text + tot ct1 x.Starts + 1
theorem ctle_Image (x : DImage) : ctImage x ≤ 1 * (1 + wtImage x) := by
  have h0 := tot_ct1 x.Text
  have h1 := tot_ct1 x.Starts
  unfold ctImage
  simp only [wtImage] at *
  omega
theorem tctle_Image (xs : List DImage) : tot ctImage xs ≤ 1 * (xs.length + tot wtImage xs) := tot_ct_le ctle_Image xs
def mwImage (x : DImage) (k : Int) : DImage := { Text := mkL mkI ct1 x.Text k, Starts := mkL mkI ct1 x.Starts (k + (tot ct1 x.Text : Nat)), Size := x.Size }
def cwImage (x : DImage) : Nat := tot ct1 x.Text + tot ct1 x.Starts
theorem set_cImage {xs : List DImage} {n : Nat} {x : DImage} : (xs.map cImage).set n [.tree 1 (x.Text.map cI), .tree 1 (x.Starts.map cI), .int .i64 x.Size] = (xs.set n x).map cImage := by rw [List.map_set]
theorem snoc_cImage {xs : List DImage} {x : DImage} : xs.map cImage ++ [[.tree 1 (x.Text.map cI), .tree 1 (x.Starts.map cI), .int .i64 x.Size]] = (xs ++ [x]).map cImage := by simp
theorem solid_cImage {xs : List DImage} : solid (xs.map cImage) = true := solid_map fun _ => rfl
structure DKernel where
  Gates : List (DGate)
  Ready : List (Int)
  Saved : List (DCore)
  Over : List (Bool)
abbrev cKernel (x : DKernel) : List AV := [.tree 3 (x.Gates.map cGate), .tree 1 (x.Ready.map cI), .tree 3 (x.Saved.map cCore), .tree 1 (x.Over.map cB)]
def wtKernel (x : DKernel) : Nat := (x.Gates.length + tot wtGate x.Gates) + x.Ready.length + (x.Saved.length + tot wtCore x.Saved) + x.Over.length
def gdKernel (x : DKernel) : Prop := (x.Gates.length ≤ 140737488351232 ∧ ∀ y ∈ x.Gates, gdGate y) ∧ (x.Ready.length ≤ 140737488351232 ∧ ∀ y ∈ x.Ready, i64 y) ∧ (x.Saved.length ≤ 140737488351232 ∧ ∀ y ∈ x.Saved, gdCore y) ∧ (x.Over.length ≤ 140737488351232)
def mkKernel (x : DKernel) (k : Int) : DKernel := { Gates := mkL mkGate ctGate x.Gates k, Ready := mkL mkI ct1 x.Ready (k + (tot ctGate x.Gates : Nat)), Saved := mkL mkCore ctCore x.Saved ((k + (tot ctGate x.Gates : Nat)) + (tot ct1 x.Ready : Nat)), Over := mkL mkB ct1 x.Over (((k + (tot ctGate x.Gates : Nat)) + (tot ct1 x.Ready : Nat)) + (tot ctCore x.Saved : Nat)) }
def ctKernel (x : DKernel) : Nat := tot ctGate x.Gates + tot ct1 x.Ready + tot ctCore x.Saved + tot ct1 x.Over
theorem ctle_Kernel (x : DKernel) : ctKernel x ≤ 2 * (1 + wtKernel x) := by
  have h0 := tctle_Gate x.Gates
  have h1 := tot_ct1 x.Ready
  have h2 := tctle_Core x.Saved
  have h3 := tot_ct1 x.Over
  unfold ctKernel
  simp only [wtKernel] at *
  omega
theorem tctle_Kernel (xs : List DKernel) : tot ctKernel xs ≤ 2 * (xs.length + tot wtKernel xs) := tot_ct_le ctle_Kernel xs
def mwKernel (x : DKernel) (k : Int) : DKernel := { Gates := mkL mkGate ctGate x.Gates k, Ready := mkL mkI ct1 x.Ready (k + (tot ctGate x.Gates : Nat)), Saved := mkL mkCore ctCore x.Saved ((k + (tot ctGate x.Gates : Nat)) + (tot ct1 x.Ready : Nat)), Over := mkL mkB ct1 x.Over (((k + (tot ctGate x.Gates : Nat)) + (tot ct1 x.Ready : Nat)) + (tot ctCore x.Saved : Nat)) }
def cwKernel (x : DKernel) : Nat := tot ctGate x.Gates + tot ct1 x.Ready + tot ctCore x.Saved + tot ct1 x.Over
theorem set_cKernel {xs : List DKernel} {n : Nat} {x : DKernel} : (xs.map cKernel).set n [.tree 3 (x.Gates.map cGate), .tree 1 (x.Ready.map cI), .tree 3 (x.Saved.map cCore), .tree 1 (x.Over.map cB)] = (xs.set n x).map cKernel := by rw [List.map_set]
theorem snoc_cKernel {xs : List DKernel} {x : DKernel} : xs.map cKernel ++ [[.tree 3 (x.Gates.map cGate), .tree 1 (x.Ready.map cI), .tree 3 (x.Saved.map cCore), .tree 1 (x.Over.map cB)]] = (xs ++ [x]).map cKernel := by simp
theorem solid_cKernel {xs : List DKernel} : solid (xs.map cKernel) = true := solid_map fun _ => rfl
def FT := (And.intro (And.intro (And.intro (And.intro (And.intro @solid_cNode @solid_cEntry) (And.intro @solid_cMonitor @solid_cProcess)) (And.intro (And.intro @solid_cProgram @solid_cGate) (And.intro @solid_cIns @solid_cCore))) (And.intro (And.intro (And.intro @solid_cPlaces @solid_cImage) (And.intro @solid_cKernel @flat_cEntry)) (And.intro (And.intro @flat_cIns @snoc_cNode) (And.intro @snoc_cEntry (And.intro @snoc_cMonitor @snoc_cProcess))))) (And.intro (And.intro (And.intro (And.intro @snoc_cProgram @snoc_cGate) (And.intro @snoc_cIns @snoc_cCore)) (And.intro (And.intro @snoc_cPlaces @snoc_cImage) (And.intro @snoc_cKernel (And.intro @set_cNode @set_cEntry)))) (And.intro (And.intro (And.intro @set_cMonitor @set_cProcess) (And.intro @set_cProgram @set_cGate)) (And.intro (And.intro @set_cIns @set_cCore) (And.intro @set_cPlaces (And.intro @set_cImage @set_cKernel))))))
/-! the cursor of a draw: a box on the caller's heap; gcOk: what a call leaves is what was there -/
structure Cur where
  b : List UInt8
  i : Nat
  h : Int
abbrev cCur (c : Cur) : List AV := [.tree 1 (c.b.map cY), .int .i64 (c.i : Int), .int .i64 c.h]
def nextH (h : Int) : Int := IntKind.wrap .i64 (IntKind.wrap .i64 (h * 6364136223846793005) + 1442695040888963407)
def lowB (x : Int) : Int := IntKind.wrap .i64 (BitVec.ofInt 64 x &&& BitVec.ofInt 64 255).toNat
def s33 (x : Int) : Int := x.fdiv (2 ^ 33)
def s45 (x : Int) : Int := x.fdiv (2 ^ 45)
def xorI (x y : Int) : Int := IntKind.wrap .i64 (BitVec.ofInt 64 x ^^^ BitVec.ofInt 64 y).toNat
theorem b33 {w : Int} : bin .shr (.int .i64 w) (.int .u64 33) = some (.int .i64 (s33 w)) := rfl
theorem b45 {w : Int} : bin .shr (.int .i64 w) (.int .u64 45) = some (.int .i64 (s45 w)) := rfl
theorem bxor {x y : Int} : bin .xor (.int .i64 x) (.int .i64 y) = some (.int .i64 (xorI x y)) := rfl
theorem b255 {x : Int} : bin .and (.int .i64 x) (.int .i64 255) = some (.int .i64 (lowB x)) := rfl
def rawB (h : Int) : Int := lowB (xorI (s33 h) (s45 h))
def byteF (c : Cur) : Int × Cur := if hi : c.i < c.b.length then (lowB (IntKind.wrap .i64 (rawB (nextH c.h) + (c.b[c.i].toNat : Int))), ⟨c.b, c.i + 1, nextH c.h⟩) else (rawB (nextH c.h), ⟨c.b, c.i, nextH c.h⟩)
theorem lowB_bd {x : Int} : 0 ≤ lowB x ∧ lowB x < 256 := by
  unfold lowB
  have h : (BitVec.ofInt 64 x &&& BitVec.ofInt 64 255).toNat ≤ 255 := by
    rw [BitVec.toNat_and]
    exact Nat.le_trans Nat.and_le_right (by decide)
  rw [wrapI (by omega) (by omega)]
  omega
theorem fsem_spec_l01Byte (c : Cur) (hb : c.b.length ≤ 1048576) : H_spec_l01Byte [.ptr ⟨0, none, 0⟩ 3 0 0] [some ⟨true, 0, 3, [[.tree 1 (c.b.map cY), .int .i64 (c.i : Int), .int .i64 c.h]]⟩] = some (.int .i64 (byteF c).1, [some ⟨true, 0, 3, [[.tree 1 ((byteF c).2.b.map cY), .int .i64 ((byteF c).2.i : Int), .int .i64 (byteF c).2.h]]⟩]) := by
  obtain ⟨b, i, h⟩ := c
  simp only at hb
  have hn : IntKind.wrap .i64 (IntKind.wrap .i64 (h * 6364136223846793005) + 1442695040888963407) = nextH h := rfl
  have hx : ∀ x, lowB (xorI (s33 x) (s45 x)) = rawB x := fun _ => rfl
  rw [sh_spec_l01Byte, run_goF]
  by_cases hi : i < b.length
  · have hi' : (i : Int) < (b.length : Int) := by omega
    have e : byteF ⟨b, i, h⟩ = (lowB (IntKind.wrap .i64 (rawB (nextH h) + (b[i].toNat : Int))), ⟨b, i + 1, nextH h⟩) := by simp only [byteF, hi, dif_pos]
    have hgr := getRow cY b hi
    have hwb : IntKind.wrap .i64 (b[i].toNat : Int) = (b[i].toNat : Int) := by have := b[i].toNat_lt; exact wrapI (by omega) (by omega)
    simp only [cY] at hgr
    simp (maxSteps := 10000000) (disch := first | assumption | omega) only [F_spec_l01Byte, params, EG, EL, ↓reduceIte, Nat.reduceEqDiff, Nat.reduceAdd, Nat.reduceSub, Nat.reduceMul, Nat.reduceLeDiff, Nat.reduceLT, Int.reduceLT, Int.reduceLE, Int.reduceEq, Int.reduceToNat, reduceCtorEq, FB, ED, FT, cx_spec_l01Byte, hn, b33, b45, bxor, b255, hx, hi, hi', wrap_succ, hgr, hwb, e]
  · have hi' : ¬ (i : Int) < (b.length : Int) := by omega
    have e : byteF ⟨b, i, h⟩ = (rawB (nextH h), ⟨b, i, nextH h⟩) := by simp only [byteF, hi, dif_neg, not_false_iff]
    simp (maxSteps := 10000000) (disch := first | assumption | omega) only [F_spec_l01Byte, params, EG, EL, ↓reduceIte, Nat.reduceEqDiff, Nat.reduceAdd, Nat.reduceSub, Nat.reduceMul, Nat.reduceLeDiff, Nat.reduceLT, Int.reduceLT, Int.reduceLE, Int.reduceEq, Int.reduceToNat, reduceCtorEq, FB, ED, FT, cx_spec_l01Byte, hn, b33, b45, bxor, b255, hx, hi, hi', e]
theorem byteF_b {c : Cur} : (byteF c).2.b = c.b := by unfold byteF; split <;> rfl
theorem byteF_bd {c : Cur} : 0 ≤ (byteF c).1 ∧ (byteF c).1 < 256 := by unfold byteF rawB; split <;> exact lowB_bd
def belowF (n : Int) (c : Cur) : Int × Cur :=
  if n ≤ 0 then (0, c) else if n ≤ 256 then ((byteF c).1.tmod n, (byteF c).2) else
    (((byteF c).1 * 16777216 + (byteF (byteF c).2).1 * 65536 + (byteF (byteF (byteF c).2).2).1 * 256 + (byteF (byteF (byteF (byteF c).2).2).2).1).tmod n, (byteF (byteF (byteF (byteF c).2).2).2).2)
theorem belowF_b {n : Int} {c : Cur} : (belowF n c).2.b = c.b := by
  unfold belowF; split
  · rfl
  · split <;> simp only [byteF_b]
theorem tmod_bd {a n : Int} (h : 0 ≤ a) (h2 : 0 < n) : 0 ≤ a.tmod n ∧ a.tmod n < n := ⟨Int.tmod_nonneg _ h, Int.tmod_lt_of_pos _ h2⟩
theorem belowF_bd {n : Int} {c : Cur} (h : 0 < n) : 0 ≤ (belowF n c).1 ∧ (belowF n c).1 < n := by
  have h1 := @byteF_bd c
  have h2 := @byteF_bd (byteF c).2
  have h3 := @byteF_bd (byteF (byteF c).2).2
  have h4 := @byteF_bd (byteF (byteF (byteF c).2).2).2
  unfold belowF
  rw [if_neg (by omega)]
  split
  · exact tmod_bd h1.1 h
  · exact tmod_bd (by omega) h
set_option maxHeartbeats 2000000 in
theorem fsem_spec_l01Below (c : Cur) (n : Int) (hb : c.b.length ≤ 1048576) : H_spec_l01Below [.ptr ⟨0, none, 0⟩ 3 0 0, .int .i64 n] [some ⟨true, 0, 3, [[.tree 1 (c.b.map cY), .int .i64 (c.i : Int), .int .i64 c.h]]⟩] = some (.int .i64 (belowF n c).1, [some ⟨true, 0, 3, [[.tree 1 ((belowF n c).2.b.map cY), .int .i64 ((belowF n c).2.i : Int), .int .i64 (belowF n c).2.h]]⟩]) := by
  have k1 := fsem_spec_l01Byte c hb
  have k2 := fsem_spec_l01Byte (byteF c).2 (by rw [byteF_b]; exact hb)
  have k3 := fsem_spec_l01Byte (byteF (byteF c).2).2 (by rw [byteF_b, byteF_b]; exact hb)
  have k4 := fsem_spec_l01Byte (byteF (byteF (byteF c).2).2).2 (by rw [byteF_b, byteF_b, byteF_b]; exact hb)
  have d1 := @byteF_bd c
  have d2 := @byteF_bd (byteF c).2
  have d3 := @byteF_bd (byteF (byteF c).2).2
  have d4 := @byteF_bd (byteF (byteF (byteF c).2).2).2
  rw [sh_spec_l01Below, run_goF]
  unfold belowF
  by_cases h0 : n ≤ 0
  · simp (maxSteps := 10000000) (disch := first | assumption | omega) only [F_spec_l01Below, params, EG, EL, ↓reduceIte, Nat.reduceEqDiff, Nat.reduceAdd, Nat.reduceSub, Nat.reduceMul, Nat.reduceLeDiff, Nat.reduceLT, Int.reduceLT, Int.reduceLE, Int.reduceEq, Int.reduceToNat, reduceCtorEq, FB, ED, FT, cx_spec_l01Below, h0]
  · by_cases h2 : n ≤ 256
    · have hn0 : ¬ n = 0 := by omega
      simp (maxSteps := 10000000) (disch := first | assumption | omega) only [F_spec_l01Below, params, EG, EL, ↓reduceIte, Nat.reduceEqDiff, Nat.reduceAdd, Nat.reduceSub, Nat.reduceMul, Nat.reduceLeDiff, Nat.reduceLT, Int.reduceLT, Int.reduceLE, Int.reduceEq, Int.reduceToNat, reduceCtorEq, FB, ED, EF, FT, cx_spec_l01Below, h0, h2, hn0, cl_spec_l01Byte, k1]
    · have hn0 : ¬ n = 0 := by omega
      simp (maxSteps := 10000000) (disch := first | assumption | omega) only [F_spec_l01Below, params, EG, EL, ↓reduceIte, Nat.reduceEqDiff, Nat.reduceAdd, Nat.reduceSub, Nat.reduceMul, Nat.reduceLeDiff, Nat.reduceLT, Int.reduceLT, Int.reduceLE, Int.reduceEq, Int.reduceToNat, reduceCtorEq, FB, ED, EF, FT, cx_spec_l01Below, h0, h2, hn0, cl_spec_l01Byte, k1, k2, k3, k4, wrapI]
def andH (x : Int) : Int := IntKind.wrap .i64 (BitVec.ofInt 64 x &&& BitVec.ofInt 64 1073741823).toNat
theorem bandH {x : Int} : bin .and (.int .i64 x) (.int .i64 1073741823) = some (.int .i64 (andH x)) := rfl
def stepH (h : Int) (b : UInt8) : Int := andH (IntKind.wrap .i64 (IntKind.wrap .i64 (IntKind.wrap .i64 (h * 131) + (b.toNat : Int)) + 7))
def hashF : List UInt8 → Int → Int
  | [], h => h
  | b :: r, h => hashF r (stepH h b)
theorem loop_l01New (bs : List UInt8) (hb : bs.length ≤ 1048576) (h0 : Int) : loopV X_spec_l01New 0 [0, 3, 4] [(1, [0, 3])] B0_spec_l01New ⟨[(0, .tree 1 (bs.map cY)), (3, .int .i64 h0), (4, .int .i64 0)], []⟩ = some (.exit 0, ⟨[(0, .tree 1 (bs.map cY)), (3, .int .i64 (hashF (bs.take 4000) h0))], []⟩) := by
  refine loop_list (bs.take 4000) (fun _ (_ : Int) => True) (fun i h => ⟨[(0, .tree 1 (bs.map cY)), (3, .int .i64 h), (4, .int .i64 ((i : Nat) : Int))], []⟩) (fun rest h => some (.exit 0, ⟨[(0, .tree 1 (bs.map cY)), (3, .int .i64 (hashF rest h))], []⟩)) ?_ ?_ h0 trivial
  · intro h _
    have hl : (bs.take 4000).length = min 4000 bs.length := by simp
    rw [loopV_by B0_spec_l01New.eq_1]
    by_cases hc : bs.length ≤ 4000
    · have : (bs.take 4000).length = bs.length := by omega
      simp (maxSteps := 10000000) (disch := first | assumption | omega) only [EG, EL, ↓reduceIte, Nat.reduceEqDiff, Nat.reduceAdd, Nat.reduceSub, Nat.reduceMul, Nat.reduceLeDiff, Nat.reduceLT, Int.reduceLT, Int.reduceLE, Int.reduceEq, Int.reduceToNat, reduceCtorEq, FB, this, int_lt_irrefl, hashF]
    · have : (bs.take 4000).length = 4000 := by omega
      have h2 : ((4000 : Nat) : Int) < (bs.length : Int) := by omega
      have h3 : ¬ ((4000 : Nat) : Int) < 4000 := by omega
      simp (maxSteps := 10000000) (disch := first | assumption | omega) only [EG, EL, ↓reduceIte, Nat.reduceEqDiff, Nat.reduceAdd, Nat.reduceSub, Nat.reduceMul, Nat.reduceLeDiff, Nat.reduceLT, Int.reduceLT, Int.reduceLE, Int.reduceEq, Int.reduceToNat, reduceCtorEq, FB, this, h2, h3, hashF]
      split <;> rfl
  · rintro i hi0 y rest h rfl rfl _ ih
    have hl : (bs.take 4000).length = min 4000 bs.length := by simp
    have hi : i < bs.length := by omega
    have hi' : (i : Int) < (bs.length : Int) := by omega
    have h4 : (i : Int) < 4000 := by omega
    have hge : (bs.take 4000)[i] = bs[i] := List.getElem_take
    have hgr := getRow cY bs hi
    have hwb : IntKind.wrap .i64 (bs[i].toNat : Int) = (bs[i].toNat : Int) := by have := bs[i].toNat_lt; exact wrapI (by omega) (by omega)
    simp only [cY] at hgr
    have i1 := ih (stepH h bs[i]) trivial
    have hst : andH (IntKind.wrap .i64 (IntKind.wrap .i64 (IntKind.wrap .i64 (h * 131) + (bs[i].toNat : Int)) + 7)) = stepH h bs[i] := rfl
    rw [loopV_by B0_spec_l01New.eq_1, hge]
    simp (maxSteps := 10000000) (disch := first | assumption | omega) only [EG, EL, ↓reduceIte, Nat.reduceEqDiff, Nat.reduceAdd, Nat.reduceSub, Nat.reduceMul, Nat.reduceLeDiff, Nat.reduceLT, Int.reduceLT, Int.reduceLE, Int.reduceEq, Int.reduceToNat, reduceCtorEq, FB, ED, FT, cx_spec_l01New, hi', h4, hgr, wrap_succ, hwb, bandH, hst, i1, hashF]
def curNew (bs : List UInt8) : Cur := ⟨bs, 0, hashF (bs.take 4000) (IntKind.wrap .i64 (76401 + (bs.length : Int)))⟩
theorem fsem_spec_l01New (bs : List UInt8) (hb : bs.length ≤ 1048576) : H_spec_l01New [.tree 1 (bs.map cY)] [] = some (.ptr ⟨0, none, 0⟩ 3 0 0, [some ⟨true, 0, 3, [[.tree 1 ((curNew bs).b.map cY), .int .i64 ((curNew bs).i : Int), .int .i64 (curNew bs).h]]⟩]) := by
  have l := loop_l01New bs hb (IntKind.wrap .i64 (76401 + (bs.length : Int)))
  rw [sh_spec_l01New, run_goF]
  simp (maxSteps := 10000000) (disch := first | assumption | omega) only [F_spec_l01New, params, EG, EL, ↓reduceIte, Nat.reduceEqDiff, Nat.reduceAdd, Nat.reduceSub, Nat.reduceMul, Nat.reduceLeDiff, Nat.reduceLT, Int.reduceLT, Int.reduceLE, Int.reduceEq, Int.reduceToNat, reduceCtorEq, FB, ED, FT, cx_spec_l01New, l, curNew]
/-! gates -/
/-- In line, each in 0 .. 3 and none of those seen. -/
def freshB (seen : List Int) : List Int → Bool
  | [] => true
  | x :: xs => decide (0 ≤ x ∧ x ≤ 3) && (decide (x ∉ seen) && freshB (seen ++ [x]) xs)
def qfreshB (seen : List Int) : List Int → Bool
  | [] => true
  | x :: xs => if x = -1 then qfreshB (seen ++ [x]) xs else decide (0 ≤ x ∧ x ≤ 3) && (decide (x ∉ seen) && qfreshB (seen ++ [x]) xs)
def somebody (xs : List Int) : List Int := xs.filter (fun x => decide (x ≠ -1))
theorem freshB_app : ∀ (xs ys seen : List Int), freshB seen (xs ++ ys) = (freshB seen xs && freshB (seen ++ xs) ys)
  | [], ys, seen => by simp [freshB]
  | x :: xs, ys, seen => by
    simp only [List.cons_append, freshB, freshB_app xs ys (seen ++ [x]), List.append_assoc, List.singleton_append, List.nil_append, Bool.and_assoc]
theorem freshB_mem : ∀ (xs seen : List Int), freshB seen xs = true → ∀ x ∈ xs, 0 ≤ x ∧ x ≤ 3
  | [], _, _, x, hx => by simp at hx
  | y :: ys, seen, h, x, hx => by
    unfold freshB at h
    simp only [Bool.and_eq_true, decide_eq_true_eq] at h
    rcases List.mem_cons.1 hx with rfl | hx
    · exact h.1
    · exact freshB_mem ys _ h.2.2 x hx
theorem qfreshB_eq : ∀ (xs seen : List Int), qfreshB seen xs = freshB (somebody seen) (somebody xs)
  | [], seen => rfl
  | x :: xs, seen => by
    unfold qfreshB
    rw [qfreshB_eq xs (seen ++ [x])]
    by_cases h : x = -1
    · subst h
      simp [somebody]
    · have hm : x ∈ somebody seen ↔ x ∈ seen := by simp [somebody, h]
      rw [if_neg h]
      have e : somebody (x :: xs) = x :: somebody xs := by simp [somebody, h]
      rw [e]
      have e2 : somebody (seen ++ [x]) = somebody seen ++ [x] := by simp [somebody, h]
      rw [e2]
      conv => rhs; unfold freshB
      simp only [hm]
/-- A right gate. -/
def gateOk (owner : Int) (waits queues : List Int) : Bool :=
  decide (queues.length ≤ 2) && (freshB [] ((if owner = -1 then [] else [owner]) ++ waits ++ somebody queues) && decide (owner ≠ -1 ∨ waits.length = 0))
theorem gateOk_low {owner : Int} {waits queues : List Int} (h : ¬ (-1 ≤ owner ∧ owner ≤ 3)) : gateOk owner waits queues = false := by
  unfold gateOk
  rw [if_neg (by omega)]
  simp only [List.cons_append, List.nil_append]
  unfold freshB
  have : ¬ (0 ≤ owner ∧ owner ≤ 3) := by omega
  simp [this]
def inGate (owner : Int) (waits queues : List Int) : List Int := (if owner = -1 then [] else [owner]) ++ waits ++ somebody queues
theorem inGate_len (owner : Int) (waits queues : List Int) : (inGate owner waits queues).length ≤ 1 + waits.length + queues.length := by
  unfold inGate somebody
  have := List.length_filter_le (fun x : Int => decide (x ≠ -1)) queues
  rw [List.length_append, List.length_append]
  split <;> simp only [List.length_nil, List.length_cons] <;> omega
/-- How the reference tells a right gate. -/
theorem gateOk_spec (owner : Int) (waits queues : List Int) : gateOk owner waits queues = (decide (-1 ≤ owner ∧ owner ≤ 3) && (decide (queues.length ≤ 2) && (!(decide (owner < 0) && decide (0 < waits.length)) && (freshB (if 0 ≤ owner then [owner] else []) waits && qfreshB ((if 0 ≤ owner then [owner] else []) ++ waits) queues)))) := by
  by_cases h1 : -1 ≤ owner ∧ owner ≤ 3
  · by_cases h3 : owner < 0
    · have ho : owner = -1 := by omega
      subst ho
      by_cases h4 : waits = []
      · subst h4
        rw [qfreshB_eq]
        simp [gateOk, freshB, somebody]
      · have : ¬ waits.length = 0 := by simpa using h4
        simp [gateOk, h4, List.length_pos_iff]
    · have ho : ¬ owner = -1 := by omega
      have ho2 : 0 ≤ owner ∧ owner ≤ 3 := by omega
      rw [if_pos ho2.1, qfreshB_eq]
      unfold gateOk
      rw [if_neg ho, freshB_app ([owner] ++ waits), freshB_app [owner]]
      have e1 : freshB [] [owner] = true := by simp [freshB, ho2]
      rw [e1]
      simp only [h1, h3, and_self, decide_true, decide_false, Bool.true_and, List.nil_append, ho, not_false_eq_true, true_or, ne_eq, Bool.and_true, Bool.false_and, Bool.not_false]
      cases hf : freshB [owner] waits with
      | false => simp
      | true =>
        have hm := freshB_mem _ _ hf
        have e2 : somebody ([owner] ++ waits) = [owner] ++ waits := by
          unfold somebody
          rw [List.filter_eq_self]
          intro x hx
          rcases List.mem_append.1 hx with hx | hx
          · have := List.mem_singleton.1 hx
            exact decide_eq_true (by omega)
          · have := hm x hx
            exact decide_eq_true (by omega)
        rw [e2]
  · rw [gateOk_low h1]
    simp [h1]
theorem map_cI_snoc {xs : List Int} {y : Int} : xs.map cI ++ [[.int .i64 y]] = (xs ++ [y]).map cI := by simp
theorem map_cI_app {xs ys : List Int} : xs.map cI ++ ys.map cI = (xs ++ ys).map cI := by simp
theorem map_cI_one {y : Int} : [[AV.int .i64 y]] = [y].map cI := rfl
/-- A loop that goes on, or gives false. -/
def okR (b : Bool) (e : Nat) (s : St) (t : Nat) : Option (Ex × St) := if b = true then some (.exit e, s) else some (.ret, ⟨[(t, .bool false)], []⟩)
theorem okR_true {e t : Nat} {s : St} : okR true e s t = some (.exit e, s) := rfl
theorem okR_false {e t : Nat} {s : St} : okR false e s t = some (.ret, ⟨[(t, .bool false)], []⟩) := rfl
theorem goE_okR {ctx : Ctx} {base : Nat} {b : Bool} {e t : Nat} {s : St} {K : List Fr} : goE ctx base (okR b e s t) K = if b = true then unw ctx base K (.exit e) s else unw ctx base K .ret ⟨[(t, .bool false)], []⟩ := by
  unfold okR; split <;> rfl
theorem mem_fIx {xs : List Int} {x : Int} : ∀ {i : Nat}, (0 ≤ fIx (fun y => decide (x = y)) xs i) = (x ∈ xs) := by
  induction xs with
  | nil => intro i; simp [fIx]
  | cons y ys ih =>
    intro i
    by_cases h : x = y
    · subst h; simp [fIx]
    · simp only [fIx, h, decide_false, Bool.false_eq_true, if_false, ih, List.mem_cons, false_or]
theorem sem_spec_l01In (a lo hi : Int) : S_spec_l01In.sem [.int .i64 a, .int .i64 lo, .int .i64 hi] = some (.bool (decide (lo ≤ a ∧ a ≤ hi)), []) := by
  rw [sg_spec_l01In, sem_go]
  simp (maxSteps := 10000000) (disch := first | assumption | omega) only [F_spec_l01In, params, EG, EL, ↓reduceIte, Nat.reduceEqDiff, Nat.reduceAdd, Nat.reduceSub, Nat.reduceMul, Nat.reduceLeDiff, Nat.reduceLT, Int.reduceLT, Int.reduceLE, Int.reduceEq, Int.reduceToNat, reduceCtorEq, FB, cx_spec_l01In]
  by_cases h1 : lo ≤ a <;> by_cases h2 : a ≤ hi <;> simp [h1, h2]
theorem sem_impl_within (a lo hi : Int) : S_impl_within.sem [.int .i64 a, .int .i64 lo, .int .i64 hi] = some (.bool (decide (lo ≤ a ∧ a ≤ hi)), []) := by
  rw [sg_impl_within, sem_go]
  simp (maxSteps := 10000000) (disch := first | assumption | omega) only [F_impl_within, params, EG, EL, ↓reduceIte, Nat.reduceEqDiff, Nat.reduceAdd, Nat.reduceSub, Nat.reduceMul, Nat.reduceLeDiff, Nat.reduceLT, Int.reduceLT, Int.reduceLE, Int.reduceEq, Int.reduceToNat, reduceCtorEq, FB, cx_impl_within]
  by_cases h1 : lo ≤ a <;> by_cases h2 : a ≤ hi <;> simp [h1, h2]
theorem sem_spec_l15Copy (x : DCore) (h : x.Regs.length ≤ 1048576) : S_spec_l15Copy.sem [.agg (cCore x)] = some (.agg (cCore x), []) := by
  have h1 : x.Regs.length * 8 ≤ 70368744177664 := by omega
  rw [sg_spec_l15Copy, sem_go]
  simp (maxSteps := 10000000) (disch := first | assumption | omega) only [F_spec_l15Copy, params, EG, EL, ↓reduceIte, Nat.reduceEqDiff, Nat.reduceAdd, Nat.reduceSub, Nat.reduceMul, Nat.reduceLeDiff, Nat.reduceLT, Int.reduceLT, Int.reduceLE, Int.reduceEq, Int.reduceToNat, reduceCtorEq, FB, ED, cx_spec_l15Copy, h1]
theorem sem_impl_copyCore (x : DCore) (h : x.Regs.length ≤ 1048576) : S_impl_copyCore.sem [.agg (cCore x)] = some (.agg (cCore x), []) := by
  have h1 : x.Regs.length * 8 ≤ 70368744177664 := by omega
  rw [sg_impl_copyCore, sem_go]
  simp (maxSteps := 10000000) (disch := first | assumption | omega) only [F_impl_copyCore, params, EG, EL, ↓reduceIte, Nat.reduceEqDiff, Nat.reduceAdd, Nat.reduceSub, Nat.reduceMul, Nat.reduceLeDiff, Nat.reduceLT, Int.reduceLT, Int.reduceLE, Int.reduceEq, Int.reduceToNat, reduceCtorEq, FB, ED, cx_impl_copyCore, h1]
def coreNew : DCore := ⟨List.replicate 8 0, 0, -1⟩
def holdK (x : DKernel) (c : DCore) : DKernel := if 0 ≤ c.Process ∧ c.Process ≤ (x.Saved.length : Int) - 1 then { x with Saved := x.Saved.set c.Process.toNat c } else x
def wakeK (x : DKernel) (p : Int) : DKernel := if (0 ≤ p ∧ p ≤ (x.Saved.length : Int) - 1) ∧ p ∉ x.Ready then { x with Ready := x.Ready ++ [p] } else x
def pickK (x : DKernel) : DKernel × DCore × Bool := match x.Ready with | [] => (x, coreNew, false) | r :: rs => if 0 ≤ r ∧ r ≤ (x.Saved.length : Int) - 1 then ({ x with Ready := rs }, x.Saved.getD r.toNat coreNew, true) else (x, coreNew, false)
theorem sem_spec_CoreNew : S_spec_CoreNew.sem [] = some (.agg (cCore coreNew), []) := by
  rw [sg_spec_CoreNew, sem_go]
  simp (maxSteps := 10000000) (disch := first | assumption | omega) only [F_spec_CoreNew, params, EG, EL, ↓reduceIte, Nat.reduceEqDiff, Nat.reduceAdd, Nat.reduceSub, Nat.reduceMul, Nat.reduceLeDiff, Nat.reduceLT, Int.reduceLT, Int.reduceLE, Int.reduceEq, Int.reduceToNat, reduceCtorEq, FB, ED, cx_spec_CoreNew]
  first | rfl | decide
theorem fIx_any {α : Type} {p : α → Bool} : ∀ {xs : List α} {i : Nat}, (0 ≤ fIx p xs i) = (xs.any p = true)
  | [], i => by simp [fIx]
  | x :: xs, i => by
    by_cases h : p x = true
    · simp only [fIx, h, if_true, List.any_cons, Bool.true_or]; simp
    · simp only [fIx, if_neg h, List.any_cons, Bool.eq_false_iff.2 h, Bool.false_or]
      exact fIx_any
def gateNew (n : Int) : DGate := ⟨-1, [], if 0 < n then (if 1 < n then [-1, -1] else [-1]) else []⟩
theorem wrap_one : IntKind.wrap .i64 (0 + 1) = 1 := by decide
theorem wrap_two : IntKind.wrap .i64 (1 + 1) = 2 := by decide
theorem min2_0 {n : Int} : (0 < (if 2 < n then 2 else n)) = (0 < n) := by split <;> simp <;> omega
theorem min2_1 {n : Int} : (1 < (if 2 < n then 2 else n)) = (1 < n) := by split <;> simp <;> omega
theorem min2_2 {n : Int} : (2 < (if 2 < n then 2 else n)) = False := by split <;> simp <;> omega
def procCore (x : DImage) (i : Nat) : DCore := ⟨List.replicate 8 0, if h : i < x.Starts.length then x.Starts[i] else 0, i⟩
def coresF (x : DImage) : List DProcess → Nat → List DCore
  | [], _ => []
  | _ :: r, i => procCore x i :: coresF x r (i + 1)
def readyF : List DProcess → Nat → List Int
  | [], _ => []
  | _ :: r, i => (i : Int) :: readyF r (i + 1)
def overF : List DProcess → List Bool
  | [] => []
  | _ :: r => false :: overF r
def monG (m : DMonitor) : DGate := gateNew m.Queues.length
def kernelNew (p : DProgram) (x : DImage) : DKernel := ⟨p.Monitors.map monG, readyF p.Processes 0, coresF x p.Processes 0, overF p.Processes⟩
theorem gateNew_len {n : Int} : (gateNew n).Waits.length + (gateNew n).Queues.length ≤ 2 := by
  unfold gateNew; split <;> (try split) <;> simp
theorem tot_monG : ∀ {ms : List DMonitor}, tot wtGate (ms.map monG) ≤ 2 * ms.length
  | [] => Nat.le_refl _
  | m :: ms => by
    have := @tot_monG ms
    have h := @gateNew_len (m.Queues.length : Int)
    simp only [List.map_cons, tot, List.length_cons, monG, wtGate] at *
    omega
theorem coresF_tot {x : DImage} : ∀ {ps : List DProcess} {i : Nat}, tot wtCore (coresF x ps i) = 8 * ps.length ∧ (coresF x ps i).length = ps.length ∧ (readyF ps i).length = ps.length ∧ (overF ps).length = ps.length
  | [], _ => ⟨rfl, rfl, rfl, rfl⟩
  | p :: ps, i => by
    obtain ⟨a, b, c, d⟩ := @coresF_tot x ps (i + 1)
    simp only [coresF, readyF, overF, tot, List.length_cons, wtCore, procCore, List.length_replicate] at *
    omega
def insOk (op a b c : Int) : Bool := decide ((1 ≤ op ∧ op ≤ 10) ∧ (0 ≤ a ∧ a ≤ 7) ∧ (0 ≤ b ∧ b ≤ 7) ∧ (0 ≤ c ∧ c ≤ 4194303) ∧ (op = 4 ∨ b = 0) ∧ (op ≠ 1 ∨ c ≤ 1000000) ∧ (op ≠ 4 ∨ (1 ≤ c ∧ c ≤ 9)) ∧ ((op ≠ 5 ∧ op ≠ 6) ∨ c = 0) ∧ (op ≠ 8 ∨ a = 0) ∧ (op ≠ 10 ∨ 1 ≤ a))
theorem insOk_no {op a b c : Int} (h : ¬ ((1 ≤ op ∧ op ≤ 10) ∧ (0 ≤ a ∧ a ≤ 7) ∧ (0 ≤ b ∧ b ≤ 7) ∧ (0 ≤ c ∧ c ≤ 4194303) ∧ (op = 4 ∨ b = 0))) : insOk op a b c = false := by
  unfold insOk; apply decide_eq_false; omega
theorem insOk_t {op a b c : Int} (h : (1 ≤ op ∧ op ≤ 10) ∧ (0 ≤ a ∧ a ≤ 7) ∧ (0 ≤ b ∧ b ≤ 7) ∧ (0 ≤ c ∧ c ≤ 4194303) ∧ (op = 4 ∨ b = 0) ∧ (op ≠ 1 ∨ c ≤ 1000000) ∧ (op ≠ 4 ∨ (1 ≤ c ∧ c ≤ 9)) ∧ ((op ≠ 5 ∧ op ≠ 6) ∨ c = 0) ∧ (op ≠ 8 ∨ a = 0) ∧ (op ≠ 10 ∨ 1 ≤ a)) : some (AV.bool true, ([] : List (List AV))) = some (.bool (insOk op a b c), []) := by
  unfold insOk; rw [decide_eq_true h]
theorem insOk_f {op a b c : Int} (h : ¬ ((1 ≤ op ∧ op ≤ 10) ∧ (0 ≤ a ∧ a ≤ 7) ∧ (0 ≤ b ∧ b ≤ 7) ∧ (0 ≤ c ∧ c ≤ 4194303) ∧ (op = 4 ∨ b = 0) ∧ (op ≠ 1 ∨ c ≤ 1000000) ∧ (op ≠ 4 ∨ (1 ≤ c ∧ c ≤ 9)) ∧ ((op ≠ 5 ∧ op ≠ 6) ∨ c = 0) ∧ (op ≠ 8 ∨ a = 0) ∧ (op ≠ 10 ∨ 1 ≤ a))) : some (AV.bool false, ([] : List (List AV))) = some (.bool (insOk op a b c), []) := by
  unfold insOk; rw [decide_eq_false h]
theorem insOk_d {op a b c : Int} {p : Prop} [Decidable p] (h : p ↔ ((1 ≤ op ∧ op ≤ 10) ∧ (0 ≤ a ∧ a ≤ 7) ∧ (0 ≤ b ∧ b ≤ 7) ∧ (0 ≤ c ∧ c ≤ 4194303) ∧ (op = 4 ∨ b = 0) ∧ (op ≠ 1 ∨ c ≤ 1000000) ∧ (op ≠ 4 ∨ (1 ≤ c ∧ c ≤ 9)) ∧ ((op ≠ 5 ∧ op ≠ 6) ∨ c = 0) ∧ (op ≠ 8 ∨ a = 0) ∧ (op ≠ 10 ∨ 1 ≤ a))) : some (AV.bool (decide p), ([] : List (List AV))) = some (.bool (insOk op a b c), []) := by
  unfold insOk; rw [decide_eq_decide.2 h]
theorem sem_spec_InsOk (op a b c : Int) : S_spec_InsOk.sem [.agg [.int .i64 op, .int .i64 a, .int .i64 b, .int .i64 c]] = some (.bool (insOk op a b c), []) := by
  rw [sg_spec_InsOk, sem_go]
  by_cases h1 : 1 ≤ op ∧ op ≤ 10
  · by_cases h2 : 0 ≤ a ∧ a ≤ 7
    · by_cases h3 : 0 ≤ b ∧ b ≤ 7
      · by_cases h4 : 0 ≤ c ∧ c ≤ 4194303
        · by_cases h5 : b = 0
          · subst h5
            have hb : (0 : Int) ≤ 0 ∧ (0 : Int) ≤ 7 := by omega
            have : op = 1 ∨ op = 2 ∨ op = 3 ∨ op = 4 ∨ op = 5 ∨ op = 6 ∨ op = 7 ∨ op = 8 ∨ op = 9 ∨ op = 10 := by omega
            rcases this with rfl | rfl | rfl | rfl | rfl | rfl | rfl | rfl | rfl | rfl
            all_goals simp (maxSteps := 10000000) (disch := first | assumption | omega) only [F_spec_InsOk, params, EG, EL, ↓reduceIte, Nat.reduceEqDiff, Nat.reduceAdd, Nat.reduceSub, Nat.reduceMul, Nat.reduceLeDiff, Nat.reduceLT, Int.reduceLT, Int.reduceLE, Int.reduceEq, Int.reduceToNat, reduceCtorEq, FB, ED, cx_spec_InsOk, cl_spec_l01In, sem_spec_l01In,  h1, h2, hb, h4, decide_true, decide_false, Bool.not_true, Bool.not_false]
            all_goals first | exact insOk_t (by omega) | exact insOk_d (by omega) | (split <;> first | exact insOk_t (by omega) | exact insOk_f (by omega)) | (by_cases h9 : 1 ≤ a ∧ a ≤ 7 <;> simp only [h9, if_true, if_false, decide_true, decide_false] <;> first | exact insOk_t (by omega) | exact insOk_f (by omega))
          · by_cases h6 : op = 4
            · subst h6
              simp (maxSteps := 10000000) (disch := first | assumption | omega) only [F_spec_InsOk, params, EG, EL, ↓reduceIte, Nat.reduceEqDiff, Nat.reduceAdd, Nat.reduceSub, Nat.reduceMul, Nat.reduceLeDiff, Nat.reduceLT, Int.reduceLT, Int.reduceLE, Int.reduceEq, Int.reduceToNat, reduceCtorEq, FB, ED, cx_spec_InsOk, cl_spec_l01In, sem_spec_l01In,  h1, h2, h3, h4, h5, decide_true, decide_false, Bool.not_true, Bool.not_false]
              all_goals first | exact insOk_t (by omega) | exact insOk_d (by omega) | (split <;> first | exact insOk_t (by omega) | exact insOk_f (by omega)) | (by_cases h9 : 1 ≤ a ∧ a ≤ 7 <;> simp only [h9, if_true, if_false, decide_true, decide_false] <;> first | exact insOk_t (by omega) | exact insOk_f (by omega))
            · by_cases h7 : op = 10
              · subst h7
                rw [insOk_no (by omega)]
                simp (maxSteps := 10000000) (disch := first | assumption | omega) only [F_spec_InsOk, params, EG, EL, ↓reduceIte, Nat.reduceEqDiff, Nat.reduceAdd, Nat.reduceSub, Nat.reduceMul, Nat.reduceLeDiff, Nat.reduceLT, Int.reduceLT, Int.reduceLE, Int.reduceEq, Int.reduceToNat, reduceCtorEq, FB, ED, cx_spec_InsOk, cl_spec_l01In, sem_spec_l01In,  h1, h2, h3, h4, h5, decide_true, decide_false, Bool.not_true, Bool.not_false]
                try simp
              · rw [insOk_no (by omega)]
                simp (maxSteps := 10000000) (disch := first | assumption | omega) only [F_spec_InsOk, params, EG, EL, ↓reduceIte, Nat.reduceEqDiff, Nat.reduceAdd, Nat.reduceSub, Nat.reduceMul, Nat.reduceLeDiff, Nat.reduceLT, Int.reduceLT, Int.reduceLE, Int.reduceEq, Int.reduceToNat, reduceCtorEq, FB, ED, cx_spec_InsOk, cl_spec_l01In, sem_spec_l01In,  h1, h2, h3, h4, h5, h6, h7, decide_true, decide_false, Bool.not_true, Bool.not_false]
        · rw [insOk_no (by omega)]
          simp (maxSteps := 10000000) (disch := first | assumption | omega) only [F_spec_InsOk, params, EG, EL, ↓reduceIte, Nat.reduceEqDiff, Nat.reduceAdd, Nat.reduceSub, Nat.reduceMul, Nat.reduceLeDiff, Nat.reduceLT, Int.reduceLT, Int.reduceLE, Int.reduceEq, Int.reduceToNat, reduceCtorEq, FB, ED, cx_spec_InsOk, cl_spec_l01In, sem_spec_l01In,  h1, h2, h3, h4, decide_true, decide_false, Bool.not_true, Bool.not_false]
      · rw [insOk_no (by omega)]
        simp (maxSteps := 10000000) (disch := first | assumption | omega) only [F_spec_InsOk, params, EG, EL, ↓reduceIte, Nat.reduceEqDiff, Nat.reduceAdd, Nat.reduceSub, Nat.reduceMul, Nat.reduceLeDiff, Nat.reduceLT, Int.reduceLT, Int.reduceLE, Int.reduceEq, Int.reduceToNat, reduceCtorEq, FB, ED, cx_spec_InsOk, cl_spec_l01In, sem_spec_l01In,  h1, h2, h3, decide_true, decide_false, Bool.not_true, Bool.not_false]
    · rw [insOk_no (by omega)]
      simp (maxSteps := 10000000) (disch := first | assumption | omega) only [F_spec_InsOk, params, EG, EL, ↓reduceIte, Nat.reduceEqDiff, Nat.reduceAdd, Nat.reduceSub, Nat.reduceMul, Nat.reduceLeDiff, Nat.reduceLT, Int.reduceLT, Int.reduceLE, Int.reduceEq, Int.reduceToNat, reduceCtorEq, FB, ED, cx_spec_InsOk, cl_spec_l01In, sem_spec_l01In,  h1, h2, decide_true, decide_false, Bool.not_true, Bool.not_false]
  · rw [insOk_no (by omega)]
    simp (maxSteps := 10000000) (disch := first | assumption | omega) only [F_spec_InsOk, params, EG, EL, ↓reduceIte, Nat.reduceEqDiff, Nat.reduceAdd, Nat.reduceSub, Nat.reduceMul, Nat.reduceLeDiff, Nat.reduceLT, Int.reduceLT, Int.reduceLE, Int.reduceEq, Int.reduceToNat, reduceCtorEq, FB, ED, cx_spec_InsOk, cl_spec_l01In, sem_spec_l01In,  h1, decide_true, decide_false, Bool.not_true, Bool.not_false]
theorem sem_impl_InsOk (op a b c : Int) : S_impl_InsOk.sem [.agg [.int .i64 op, .int .i64 a, .int .i64 b, .int .i64 c]] = some (.bool (insOk op a b c), []) := by
  rw [sg_impl_InsOk, sem_go]
  by_cases h1 : 1 ≤ op ∧ op ≤ 10
  · by_cases h2 : 0 ≤ a ∧ a ≤ 7
    · by_cases h3 : 0 ≤ b ∧ b ≤ 7
      · by_cases h4 : 0 ≤ c ∧ c ≤ 4194303
        · by_cases h5 : b = 0
          · subst h5
            have hb : (0 : Int) ≤ 0 ∧ (0 : Int) ≤ 7 := by omega
            have : op = 1 ∨ op = 2 ∨ op = 3 ∨ op = 4 ∨ op = 5 ∨ op = 6 ∨ op = 7 ∨ op = 8 ∨ op = 9 ∨ op = 10 := by omega
            rcases this with rfl | rfl | rfl | rfl | rfl | rfl | rfl | rfl | rfl | rfl
            all_goals simp (maxSteps := 10000000) (disch := first | assumption | omega) only [F_impl_InsOk, params, EG, EL, ↓reduceIte, Nat.reduceEqDiff, Nat.reduceAdd, Nat.reduceSub, Nat.reduceMul, Nat.reduceLeDiff, Nat.reduceLT, Int.reduceLT, Int.reduceLE, Int.reduceEq, Int.reduceToNat, reduceCtorEq, FB, ED, cx_impl_InsOk, cl_impl_within, sem_impl_within,  h1, h2, hb, h4, decide_true, decide_false, Bool.not_true, Bool.not_false]
            all_goals first | exact insOk_t (by omega) | exact insOk_d (by omega) | (split <;> first | exact insOk_t (by omega) | exact insOk_f (by omega)) | (by_cases h9 : 1 ≤ a ∧ a ≤ 7 <;> simp only [h9, if_true, if_false, decide_true, decide_false] <;> first | exact insOk_t (by omega) | exact insOk_f (by omega))
          · by_cases h6 : op = 4
            · subst h6
              simp (maxSteps := 10000000) (disch := first | assumption | omega) only [F_impl_InsOk, params, EG, EL, ↓reduceIte, Nat.reduceEqDiff, Nat.reduceAdd, Nat.reduceSub, Nat.reduceMul, Nat.reduceLeDiff, Nat.reduceLT, Int.reduceLT, Int.reduceLE, Int.reduceEq, Int.reduceToNat, reduceCtorEq, FB, ED, cx_impl_InsOk, cl_impl_within, sem_impl_within,  h1, h2, h3, h4, h5, decide_true, decide_false, Bool.not_true, Bool.not_false]
              all_goals first | exact insOk_t (by omega) | exact insOk_d (by omega) | (split <;> first | exact insOk_t (by omega) | exact insOk_f (by omega)) | (by_cases h9 : 1 ≤ a ∧ a ≤ 7 <;> simp only [h9, if_true, if_false, decide_true, decide_false] <;> first | exact insOk_t (by omega) | exact insOk_f (by omega))
            · by_cases h7 : op = 10
              · subst h7
                rw [insOk_no (by omega)]
                simp (maxSteps := 10000000) (disch := first | assumption | omega) only [F_impl_InsOk, params, EG, EL, ↓reduceIte, Nat.reduceEqDiff, Nat.reduceAdd, Nat.reduceSub, Nat.reduceMul, Nat.reduceLeDiff, Nat.reduceLT, Int.reduceLT, Int.reduceLE, Int.reduceEq, Int.reduceToNat, reduceCtorEq, FB, ED, cx_impl_InsOk, cl_impl_within, sem_impl_within,  h1, h2, h3, h4, h5, decide_true, decide_false, Bool.not_true, Bool.not_false]
                try simp
              · rw [insOk_no (by omega)]
                simp (maxSteps := 10000000) (disch := first | assumption | omega) only [F_impl_InsOk, params, EG, EL, ↓reduceIte, Nat.reduceEqDiff, Nat.reduceAdd, Nat.reduceSub, Nat.reduceMul, Nat.reduceLeDiff, Nat.reduceLT, Int.reduceLT, Int.reduceLE, Int.reduceEq, Int.reduceToNat, reduceCtorEq, FB, ED, cx_impl_InsOk, cl_impl_within, sem_impl_within,  h1, h2, h3, h4, h5, h6, h7, decide_true, decide_false, Bool.not_true, Bool.not_false]
        · rw [insOk_no (by omega)]
          simp (maxSteps := 10000000) (disch := first | assumption | omega) only [F_impl_InsOk, params, EG, EL, ↓reduceIte, Nat.reduceEqDiff, Nat.reduceAdd, Nat.reduceSub, Nat.reduceMul, Nat.reduceLeDiff, Nat.reduceLT, Int.reduceLT, Int.reduceLE, Int.reduceEq, Int.reduceToNat, reduceCtorEq, FB, ED, cx_impl_InsOk, cl_impl_within, sem_impl_within,  h1, h2, h3, h4, decide_true, decide_false, Bool.not_true, Bool.not_false]
      · rw [insOk_no (by omega)]
        simp (maxSteps := 10000000) (disch := first | assumption | omega) only [F_impl_InsOk, params, EG, EL, ↓reduceIte, Nat.reduceEqDiff, Nat.reduceAdd, Nat.reduceSub, Nat.reduceMul, Nat.reduceLeDiff, Nat.reduceLT, Int.reduceLT, Int.reduceLE, Int.reduceEq, Int.reduceToNat, reduceCtorEq, FB, ED, cx_impl_InsOk, cl_impl_within, sem_impl_within,  h1, h2, h3, decide_true, decide_false, Bool.not_true, Bool.not_false]
    · rw [insOk_no (by omega)]
      simp (maxSteps := 10000000) (disch := first | assumption | omega) only [F_impl_InsOk, params, EG, EL, ↓reduceIte, Nat.reduceEqDiff, Nat.reduceAdd, Nat.reduceSub, Nat.reduceMul, Nat.reduceLeDiff, Nat.reduceLT, Int.reduceLT, Int.reduceLE, Int.reduceEq, Int.reduceToNat, reduceCtorEq, FB, ED, cx_impl_InsOk, cl_impl_within, sem_impl_within,  h1, h2, decide_true, decide_false, Bool.not_true, Bool.not_false]
  · rw [insOk_no (by omega)]
    simp (maxSteps := 10000000) (disch := first | assumption | omega) only [F_impl_InsOk, params, EG, EL, ↓reduceIte, Nat.reduceEqDiff, Nat.reduceAdd, Nat.reduceSub, Nat.reduceMul, Nat.reduceLeDiff, Nat.reduceLT, Int.reduceLT, Int.reduceLE, Int.reduceEq, Int.reduceToNat, reduceCtorEq, FB, ED, cx_impl_InsOk, cl_impl_within, sem_impl_within,  h1, decide_true, decide_false, Bool.not_true, Bool.not_false]
def valOk (n : Int) : Bool := decide (-1000000 ≤ n ∧ n ≤ 1000000)
def bitF (b : Bool) : Int := if b = true then 1 else 0
def dOp (w : Int) : Int := w.fdiv (2 ^ 28)
def s25 (w : Int) : Int := w.fdiv (2 ^ 25)
def s22 (w : Int) : Int := w.fdiv (2 ^ 22)
def dA (w : Int) : Int := IntKind.wrap .i64 (BitVec.ofInt 64 (s25 w) &&& BitVec.ofInt 64 7).toNat
def dB (w : Int) : Int := IntKind.wrap .i64 (BitVec.ofInt 64 (s22 w) &&& BitVec.ofInt 64 7).toNat
def dC (w : Int) : Int := IntKind.wrap .i64 (BitVec.ofInt 64 w &&& BitVec.ofInt 64 4194303).toNat
theorem b28 {w : Int} : bin .shr (.int .i64 w) (.int .u64 28) = some (.int .i64 (dOp w)) := rfl
theorem b25 {w : Int} : bin .shr (.int .i64 w) (.int .u64 25) = some (.int .i64 (s25 w)) := rfl
theorem b22 {w : Int} : bin .shr (.int .i64 w) (.int .u64 22) = some (.int .i64 (s22 w)) := rfl
theorem bA {w : Int} : bin .and (.int .i64 (s25 w)) (.int .i64 7) = some (.int .i64 (dA w)) := rfl
theorem bB {w : Int} : bin .and (.int .i64 (s22 w)) (.int .i64 7) = some (.int .i64 (dB w)) := rfl
theorem bC {w : Int} : bin .and (.int .i64 w) (.int .i64 4194303) = some (.int .i64 (dC w)) := rfl
theorem valOk_zero : valOk 0 = true := by decide
theorem big_op {w : Int} (h : ¬ w ≤ 8589934592) : insOk (dOp w) (dA w) (dB w) (dC w) = false := by
  apply insOk_no
  have : 11 ≤ dOp w := by unfold dOp; rw [Int.fdiv_eq_ediv_of_nonneg _ (by decide)]; omega
  omega
def decOk (w : Int) : Bool := decide (0 ≤ w) && insOk (dOp w) (dA w) (dB w) (dC w)
def decR (w : Int) : AV := if decOk w = true then .tup [.agg [.int .i64 (dOp w), .int .i64 (dA w), .int .i64 (dB w), .int .i64 (dC w)], .bool true] else .tup [.agg [.int .i64 0, .int .i64 0, .int .i64 0, .int .i64 0], .bool false]
def calcN (op a b : Int) : Int := if op = 1 then IntKind.wrap .i64 (a + b) else if op = 2 then IntKind.wrap .i64 (a - b) else if op = 3 then IntKind.wrap .i64 (a * b) else if op = 4 then IntKind.wrap .i64 (a.tdiv b) else if op = 5 then a.tmod b else if op = 6 then bitF (decide (a < b)) else if op = 7 then bitF (decide (a = b)) else if op = 8 then bitF (!decide (a = 0) && !decide (b = 0)) else bitF (!decide (a = 0) || !decide (b = 0))
def calcF (op a b : Int) : Int × Int := if valOk a = true ∧ valOk b = true ∧ 1 ≤ op ∧ op ≤ 9 then (if b = 0 ∧ (op = 4 ∨ op = 5) then (0, 2) else if valOk (calcN op a b) = true then (calcN op a b, 0) else (0, 1)) else (0, 1)
def negF (a : Int) : Int × Int := if valOk a = true then (IntKind.wrap .i64 (0 - a), 0) else (0, 1)
def coreOkF (c : DCore) : Bool := c.Regs.all valOk && (decide (c.Regs.length = 8) && (decide (0 ≤ c.Pc) && decide (-1 ≤ c.Process ∧ c.Process ≤ 3)))
theorem sem_spec_ValOk (n : Int) : S_spec_ValOk.sem [.int .i64 n] = some (.bool (valOk n), []) := by
  rw [sg_spec_ValOk, sem_go]
  simp (maxSteps := 10000000) (disch := first | assumption | omega) only [F_spec_ValOk, params, EG, EL, ↓reduceIte, Nat.reduceEqDiff, Nat.reduceAdd, Nat.reduceSub, Nat.reduceMul, Nat.reduceLeDiff, Nat.reduceLT, Int.reduceLT, Int.reduceLE, Int.reduceEq, Int.reduceToNat, reduceCtorEq, FB, ED, cx_spec_ValOk, cl_spec_l01In, sem_spec_l01In, valOk]
theorem sem_spec_l03Bit (b : Bool) : S_spec_l03Bit.sem [.bool b] = some (.int .i64 (bitF b), []) := by
  rw [sg_spec_l03Bit, sem_go]
  cases b <;> simp (maxSteps := 10000000) (disch := first | assumption | omega) only [F_spec_l03Bit, params, EG, EL, ↓reduceIte, Nat.reduceEqDiff, Nat.reduceAdd, Nat.reduceSub, Nat.reduceMul, Nat.reduceLeDiff, Nat.reduceLT, Int.reduceLT, Int.reduceLE, Int.reduceEq, Int.reduceToNat, reduceCtorEq, FB, ED, cx_spec_l03Bit, bitF]
theorem sem_spec_Denied (n : Int) : S_spec_Denied.sem [.int .i64 n] = some (.int .i64 (bitF (decide (n = 0))), []) := by
  rw [sg_spec_Denied, sem_go]
  simp (maxSteps := 10000000) (disch := first | assumption | omega) only [F_spec_Denied, params, EG, EL, ↓reduceIte, Nat.reduceEqDiff, Nat.reduceAdd, Nat.reduceSub, Nat.reduceMul, Nat.reduceLeDiff, Nat.reduceLT, Int.reduceLT, Int.reduceLE, Int.reduceEq, Int.reduceToNat, reduceCtorEq, FB, ED, cx_spec_Denied, cl_spec_l03Bit, sem_spec_l03Bit]
theorem sem_spec_Negated (n : Int) : S_spec_Negated.sem [.int .i64 n] = some (.tup [.int .i64 (negF n).1, .int .i64 (negF n).2], []) := by
  rw [sg_spec_Negated, sem_go]
  cases h : valOk n <;> simp (maxSteps := 10000000) (disch := first | assumption | omega) only [F_spec_Negated, params, EG, EL, ↓reduceIte, Nat.reduceEqDiff, Nat.reduceAdd, Nat.reduceSub, Nat.reduceMul, Nat.reduceLeDiff, Nat.reduceLT, Int.reduceLT, Int.reduceLE, Int.reduceEq, Int.reduceToNat, reduceCtorEq, FB, ED, cx_spec_Negated, cl_spec_ValOk, sem_spec_ValOk, negF, h, Bool.not_true, Bool.not_false]
theorem sem_spec_Decode (w : Int) : S_spec_Decode.sem [.int .i64 w] = some (decR w, []) := by
  rw [sg_spec_Decode, sem_go]
  cases h2 : insOk (dOp w) (dA w) (dB w) (dC w) <;> by_cases h0 : 0 ≤ w <;> by_cases h1 : w ≤ 8589934592
  all_goals first | exact absurd (h2.symm.trans (big_op h1)) (by decide) | skip
  all_goals first | (have h0' : ¬ w < 0 := by omega) | (have h0' : w < 0 := by omega)
  all_goals simp (maxSteps := 10000000) (disch := first | assumption | omega) only [F_spec_Decode, params, EG, EL, ↓reduceIte, Nat.reduceEqDiff, Nat.reduceAdd, Nat.reduceSub, Nat.reduceMul, Nat.reduceLeDiff, Nat.reduceLT, Int.reduceLT, Int.reduceLE, Int.reduceEq, Int.reduceToNat, reduceCtorEq, FB, ED, FT, cx_spec_Decode, cl_spec_l01In, sem_spec_l01In, cl_spec_InsOk, sem_spec_InsOk, b28, b25, b22, bA, bB, bC, decR, decOk, h0, h0', h1, h2, and_self, and_true, true_and, and_false, false_and, decide_true, decide_false, Bool.true_and, Bool.false_and, Bool.not_true, Bool.not_false]
theorem sem_spec_Calc (op a b : Int) : S_spec_Calc.sem [.int .i64 op, .int .i64 a, .int .i64 b] = some (.tup [.int .i64 (calcF op a b).1, .int .i64 (calcF op a b).2], []) := by
  rw [sg_spec_Calc, sem_go]
  cases h1 : valOk a
  · simp (maxSteps := 10000000) (disch := first | assumption | omega) only [F_spec_Calc, params, EG, EL, ↓reduceIte, Nat.reduceEqDiff, Nat.reduceAdd, Nat.reduceSub, Nat.reduceMul, Nat.reduceLeDiff, Nat.reduceLT, Int.reduceLT, Int.reduceLE, Int.reduceEq, Int.reduceToNat, reduceCtorEq, FB, ED, cx_spec_Calc, cl_spec_l01In, sem_spec_l01In, cl_spec_l03Bit, sem_spec_l03Bit, cl_spec_ValOk, sem_spec_ValOk, Bool.not_true, Bool.not_false, decide_true, decide_false, Bool.true_and, Bool.false_and, Bool.true_or, Bool.false_or, h1, calcF]
    all_goals try (split <;> rfl)
  · cases h2 : valOk b
    · simp (maxSteps := 10000000) (disch := first | assumption | omega) only [F_spec_Calc, params, EG, EL, ↓reduceIte, Nat.reduceEqDiff, Nat.reduceAdd, Nat.reduceSub, Nat.reduceMul, Nat.reduceLeDiff, Nat.reduceLT, Int.reduceLT, Int.reduceLE, Int.reduceEq, Int.reduceToNat, reduceCtorEq, FB, ED, cx_spec_Calc, cl_spec_l01In, sem_spec_l01In, cl_spec_l03Bit, sem_spec_l03Bit, cl_spec_ValOk, sem_spec_ValOk, Bool.not_true, Bool.not_false, decide_true, decide_false, Bool.true_and, Bool.false_and, Bool.true_or, Bool.false_or, h1, h2, calcF]
      all_goals try (split <;> rfl)
    · by_cases h3 : 1 ≤ op ∧ op ≤ 9
      · have : op = 1 ∨ op = 2 ∨ op = 3 ∨ op = 4 ∨ op = 5 ∨ op = 6 ∨ op = 7 ∨ op = 8 ∨ op = 9 := by omega
        by_cases h4 : b = 0
        all_goals by_cases h5 : a = 0
        all_goals rcases this with rfl | rfl | rfl | rfl | rfl | rfl | rfl | rfl | rfl
        all_goals simp only [calcF, calcN, h1, h2, h4, h5, valOk_zero, EG, EL, ↓reduceIte, Nat.reduceEqDiff, Nat.reduceAdd, Nat.reduceSub, Nat.reduceMul, Nat.reduceLeDiff, Nat.reduceLT, Int.reduceLT, Int.reduceLE, Int.reduceEq, Int.reduceToNat, reduceCtorEq, FB, true_and, and_true, false_and, false_or, or_false, true_or, or_true]
        all_goals simp (maxSteps := 10000000) (disch := first | assumption | omega) only [F_spec_Calc, params, EG, EL, ↓reduceIte, Nat.reduceEqDiff, Nat.reduceAdd, Nat.reduceSub, Nat.reduceMul, Nat.reduceLeDiff, Nat.reduceLT, Int.reduceLT, Int.reduceLE, Int.reduceEq, Int.reduceToNat, reduceCtorEq, FB, ED, cx_spec_Calc, cl_spec_l01In, sem_spec_l01In, cl_spec_l03Bit, sem_spec_l03Bit, cl_spec_ValOk, sem_spec_ValOk, Bool.not_true, Bool.not_false, decide_true, decide_false, Bool.true_and, Bool.false_and, Bool.true_or, Bool.false_or, h1, h2, h4, h5, valOk_zero]
        all_goals first | rfl | (split <;> simp_all) | trace_state
      · simp (maxSteps := 10000000) (disch := first | assumption | omega) only [F_spec_Calc, params, EG, EL, ↓reduceIte, Nat.reduceEqDiff, Nat.reduceAdd, Nat.reduceSub, Nat.reduceMul, Nat.reduceLeDiff, Nat.reduceLT, Int.reduceLT, Int.reduceLE, Int.reduceEq, Int.reduceToNat, reduceCtorEq, FB, ED, cx_spec_Calc, cl_spec_l01In, sem_spec_l01In, cl_spec_l03Bit, sem_spec_l03Bit, cl_spec_ValOk, sem_spec_ValOk, Bool.not_true, Bool.not_false, decide_true, decide_false, Bool.true_and, Bool.false_and, Bool.true_or, Bool.false_or, h1, h2, h3, calcF]
        try trace_state
theorem sem_impl_ValOk (n : Int) : S_impl_ValOk.sem [.int .i64 n] = some (.bool (valOk n), []) := by
  rw [sg_impl_ValOk, sem_go]
  simp (maxSteps := 10000000) (disch := first | assumption | omega) only [F_impl_ValOk, params, EG, EL, ↓reduceIte, Nat.reduceEqDiff, Nat.reduceAdd, Nat.reduceSub, Nat.reduceMul, Nat.reduceLeDiff, Nat.reduceLT, Int.reduceLT, Int.reduceLE, Int.reduceEq, Int.reduceToNat, reduceCtorEq, FB, ED, cx_impl_ValOk, cl_impl_within, sem_impl_within, valOk]
theorem sem_impl_truth (b : Bool) : S_impl_truth.sem [.bool b] = some (.int .i64 (bitF b), []) := by
  rw [sg_impl_truth, sem_go]
  cases b <;> simp (maxSteps := 10000000) (disch := first | assumption | omega) only [F_impl_truth, params, EG, EL, ↓reduceIte, Nat.reduceEqDiff, Nat.reduceAdd, Nat.reduceSub, Nat.reduceMul, Nat.reduceLeDiff, Nat.reduceLT, Int.reduceLT, Int.reduceLE, Int.reduceEq, Int.reduceToNat, reduceCtorEq, FB, ED, cx_impl_truth, bitF]
theorem sem_impl_Denied (n : Int) : S_impl_Denied.sem [.int .i64 n] = some (.int .i64 (bitF (decide (n = 0))), []) := by
  rw [sg_impl_Denied, sem_go]
  simp (maxSteps := 10000000) (disch := first | assumption | omega) only [F_impl_Denied, params, EG, EL, ↓reduceIte, Nat.reduceEqDiff, Nat.reduceAdd, Nat.reduceSub, Nat.reduceMul, Nat.reduceLeDiff, Nat.reduceLT, Int.reduceLT, Int.reduceLE, Int.reduceEq, Int.reduceToNat, reduceCtorEq, FB, ED, cx_impl_Denied, cl_impl_truth, sem_impl_truth]
theorem sem_impl_Negated (n : Int) : S_impl_Negated.sem [.int .i64 n] = some (.tup [.int .i64 (negF n).1, .int .i64 (negF n).2], []) := by
  rw [sg_impl_Negated, sem_go]
  cases h : valOk n <;> simp (maxSteps := 10000000) (disch := first | assumption | omega) only [F_impl_Negated, params, EG, EL, ↓reduceIte, Nat.reduceEqDiff, Nat.reduceAdd, Nat.reduceSub, Nat.reduceMul, Nat.reduceLeDiff, Nat.reduceLT, Int.reduceLT, Int.reduceLE, Int.reduceEq, Int.reduceToNat, reduceCtorEq, FB, ED, cx_impl_Negated, cl_impl_ValOk, sem_impl_ValOk, negF, h, Bool.not_true, Bool.not_false]
theorem sem_impl_Decode (w : Int) : S_impl_Decode.sem [.int .i64 w] = some (decR w, []) := by
  rw [sg_impl_Decode, sem_go]
  cases h2 : insOk (dOp w) (dA w) (dB w) (dC w) <;> by_cases h0 : 0 ≤ w <;> by_cases h1 : w ≤ 8589934592
  all_goals first | exact absurd (h2.symm.trans (big_op h1)) (by decide) | skip
  all_goals first | (have h0' : ¬ w < 0 := by omega) | (have h0' : w < 0 := by omega)
  all_goals simp (maxSteps := 10000000) (disch := first | assumption | omega) only [F_impl_Decode, params, EG, EL, ↓reduceIte, Nat.reduceEqDiff, Nat.reduceAdd, Nat.reduceSub, Nat.reduceMul, Nat.reduceLeDiff, Nat.reduceLT, Int.reduceLT, Int.reduceLE, Int.reduceEq, Int.reduceToNat, reduceCtorEq, FB, ED, FT, cx_impl_Decode, cl_impl_within, sem_impl_within, cl_impl_InsOk, sem_impl_InsOk, b28, b25, b22, bA, bB, bC, decR, decOk, h0, h0', h1, h2, and_self, and_true, true_and, and_false, false_and, decide_true, decide_false, Bool.true_and, Bool.false_and, Bool.not_true, Bool.not_false]
theorem sem_impl_Calc (op a b : Int) : S_impl_Calc.sem [.int .i64 op, .int .i64 a, .int .i64 b] = some (.tup [.int .i64 (calcF op a b).1, .int .i64 (calcF op a b).2], []) := by
  rw [sg_impl_Calc, sem_go]
  cases h1 : valOk a
  · simp (maxSteps := 10000000) (disch := first | assumption | omega) only [F_impl_Calc, params, EG, EL, ↓reduceIte, Nat.reduceEqDiff, Nat.reduceAdd, Nat.reduceSub, Nat.reduceMul, Nat.reduceLeDiff, Nat.reduceLT, Int.reduceLT, Int.reduceLE, Int.reduceEq, Int.reduceToNat, reduceCtorEq, FB, ED, cx_impl_Calc, cl_impl_within, sem_impl_within, cl_impl_truth, sem_impl_truth, cl_impl_ValOk, sem_impl_ValOk, Bool.not_true, Bool.not_false, decide_true, decide_false, Bool.true_and, Bool.false_and, Bool.true_or, Bool.false_or, h1, calcF]
    all_goals try (split <;> rfl)
  · cases h2 : valOk b
    · simp (maxSteps := 10000000) (disch := first | assumption | omega) only [F_impl_Calc, params, EG, EL, ↓reduceIte, Nat.reduceEqDiff, Nat.reduceAdd, Nat.reduceSub, Nat.reduceMul, Nat.reduceLeDiff, Nat.reduceLT, Int.reduceLT, Int.reduceLE, Int.reduceEq, Int.reduceToNat, reduceCtorEq, FB, ED, cx_impl_Calc, cl_impl_within, sem_impl_within, cl_impl_truth, sem_impl_truth, cl_impl_ValOk, sem_impl_ValOk, Bool.not_true, Bool.not_false, decide_true, decide_false, Bool.true_and, Bool.false_and, Bool.true_or, Bool.false_or, h1, h2, calcF]
      all_goals try (split <;> rfl)
    · by_cases h3 : 1 ≤ op ∧ op ≤ 9
      · have : op = 1 ∨ op = 2 ∨ op = 3 ∨ op = 4 ∨ op = 5 ∨ op = 6 ∨ op = 7 ∨ op = 8 ∨ op = 9 := by omega
        by_cases h4 : b = 0
        all_goals by_cases h5 : a = 0
        all_goals rcases this with rfl | rfl | rfl | rfl | rfl | rfl | rfl | rfl | rfl
        all_goals simp only [calcF, calcN, h1, h2, h4, h5, valOk_zero, EG, EL, ↓reduceIte, Nat.reduceEqDiff, Nat.reduceAdd, Nat.reduceSub, Nat.reduceMul, Nat.reduceLeDiff, Nat.reduceLT, Int.reduceLT, Int.reduceLE, Int.reduceEq, Int.reduceToNat, reduceCtorEq, FB, true_and, and_true, false_and, false_or, or_false, true_or, or_true]
        all_goals simp (maxSteps := 10000000) (disch := first | assumption | omega) only [F_impl_Calc, params, EG, EL, ↓reduceIte, Nat.reduceEqDiff, Nat.reduceAdd, Nat.reduceSub, Nat.reduceMul, Nat.reduceLeDiff, Nat.reduceLT, Int.reduceLT, Int.reduceLE, Int.reduceEq, Int.reduceToNat, reduceCtorEq, FB, ED, cx_impl_Calc, cl_impl_within, sem_impl_within, cl_impl_truth, sem_impl_truth, cl_impl_ValOk, sem_impl_ValOk, Bool.not_true, Bool.not_false, decide_true, decide_false, Bool.true_and, Bool.false_and, Bool.true_or, Bool.false_or, h1, h2, h4, h5, valOk_zero]
        all_goals first | rfl | (split <;> simp_all) | trace_state
      · simp (maxSteps := 10000000) (disch := first | assumption | omega) only [F_impl_Calc, params, EG, EL, ↓reduceIte, Nat.reduceEqDiff, Nat.reduceAdd, Nat.reduceSub, Nat.reduceMul, Nat.reduceLeDiff, Nat.reduceLT, Int.reduceLT, Int.reduceLE, Int.reduceEq, Int.reduceToNat, reduceCtorEq, FB, ED, cx_impl_Calc, cl_impl_within, sem_impl_within, cl_impl_truth, sem_impl_truth, cl_impl_ValOk, sem_impl_ValOk, Bool.not_true, Bool.not_false, decide_true, decide_false, Bool.true_and, Bool.false_and, Bool.true_or, Bool.false_or, h1, h2, h3, calcF]
        try trace_state
theorem any_valOk {xs : List Int} : (xs.any fun n => !valOk n) = !(xs.all valOk) := by
  induction xs with
  | nil => rfl
  | cons y ys ih => cases h : valOk y <;> simp [ih, h]
def wordR (t : List Int) (pc : Int) : AV := if 0 ≤ pc ∧ pc ≤ (t.length : Int) - 1 then decR (t.getD pc.toNat 0) else .tup [.agg [.int .i64 0, .int .i64 0, .int .i64 0, .int .i64 0], .bool false]
def memF (op : Int) : Bool := decide (op = 2) || (decide (op = 3) || decide (op = 9))
theorem sem_spec_CoreOk (x : DCore) (hl : x.Regs.length ≤ 140737488351232) : S_spec_CoreOk.sem [.agg (cCore x)] = some (.bool (coreOkF x), []) := by
  have loop : loopV X_spec_CoreOk 0 [1, 3] [(1, [1]), (0, [2])] B0_spec_CoreOk ⟨[(1, .ptr ⟨0, none, 0⟩ 3 0 0), (3, .int .i64 0)], [some ⟨true, 0, 3, [cCore x]⟩]⟩ = okR (x.Regs.all valOk) 0 ⟨[(1, .ptr ⟨0, none, 0⟩ 3 0 0)], [some ⟨true, 0, 3, [cCore x]⟩]⟩ 2 := by
    refine loop_list x.Regs (fun _ (_ : Unit) => True) (fun i _ => ⟨[(1, .ptr ⟨0, none, 0⟩ 3 0 0), (3, .int .i64 ((i : Nat) : Int))], [some ⟨true, 0, 3, [cCore x]⟩]⟩) (fun rest _ => okR (rest.all valOk) 0 ⟨[(1, .ptr ⟨0, none, 0⟩ 3 0 0)], [some ⟨true, 0, 3, [cCore x]⟩]⟩ 2) ?_ ?_ () trivial
    · intro _ _
      rw [loopV_by B0_spec_CoreOk.eq_1]
      simp only [EG, EL, ↓reduceIte, Nat.reduceEqDiff, Nat.reduceAdd, Nat.reduceSub, Nat.reduceMul, Nat.reduceLeDiff, Nat.reduceLT, Int.reduceLT, Int.reduceLE, Int.reduceEq, Int.reduceToNat, reduceCtorEq, FB, int_lt_irrefl, List.all_nil, okR_true]
    · rintro i hi0 y rest _ rfl rfl _ ih
      have i1 := ih () trivial
      have hi : (i : Int) < (x.Regs.length : Int) := by omega
      simp only [cCore] at i1
      rw [loopV_by B0_spec_CoreOk.eq_1]
      cases h1 : valOk x.Regs[i]
      all_goals simp (maxSteps := 10000000) (disch := first | assumption | omega) only [cCore, EG, EL, ↓reduceIte, Nat.reduceEqDiff, Nat.reduceAdd, Nat.reduceSub, Nat.reduceMul, Nat.reduceLeDiff, Nat.reduceLT, Int.reduceLT, Int.reduceLE, Int.reduceEq, Int.reduceToNat, reduceCtorEq, FB, hi, wrap_succ, getRow _ _ hi0, h1, i1, cx_spec_CoreOk, cl_spec_ValOk, sem_spec_ValOk, List.all_cons, okR_false, decide_true, decide_false, Bool.not_true, Bool.not_false, Bool.true_and, Bool.false_and, Bool.and_true, Bool.and_false]
  rw [sg_spec_CoreOk, sem_go]
  cases ha : x.Regs.all valOk
  all_goals simp only [ha, EG, EL, ↓reduceIte, Nat.reduceEqDiff, Nat.reduceAdd, Nat.reduceSub, Nat.reduceMul, Nat.reduceLeDiff, Nat.reduceLT, Int.reduceLT, Int.reduceLE, Int.reduceEq, Int.reduceToNat, reduceCtorEq, FB, okR_true, okR_false, cCore] at loop
  · simp (maxSteps := 10000000) (disch := first | assumption | omega) only [cCore, F_spec_CoreOk, params, EG, EL, ↓reduceIte, Nat.reduceEqDiff, Nat.reduceAdd, Nat.reduceSub, Nat.reduceMul, Nat.reduceLeDiff, Nat.reduceLT, Int.reduceLT, Int.reduceLE, Int.reduceEq, Int.reduceToNat, reduceCtorEq, FB, cx_spec_CoreOk, ha, loop, coreOkF, decide_true, decide_false, Bool.not_true, Bool.not_false, Bool.true_and, Bool.false_and, Bool.and_true, Bool.and_false]
  · by_cases h8 : x.Regs.length = 8
    · have h8' : (x.Regs.length : Int) = 8 := by omega
      by_cases hp : 0 ≤ x.Pc
      all_goals simp (maxSteps := 10000000) (disch := first | assumption | omega) only [cCore, F_spec_CoreOk, params, EG, EL, ↓reduceIte, Nat.reduceEqDiff, Nat.reduceAdd, Nat.reduceSub, Nat.reduceMul, Nat.reduceLeDiff, Nat.reduceLT, Int.reduceLT, Int.reduceLE, Int.reduceEq, Int.reduceToNat, reduceCtorEq, FB, cx_spec_CoreOk, ha, loop, coreOkF, h8, h8', hp, cl_spec_l01In, sem_spec_l01In, decide_true, decide_false, Bool.not_true, Bool.not_false, Bool.true_and, Bool.false_and, Bool.and_true, Bool.and_false]
    · have h8' : ¬ (x.Regs.length : Int) = 8 := by omega
      simp (maxSteps := 10000000) (disch := first | assumption | omega) only [cCore, F_spec_CoreOk, params, EG, EL, ↓reduceIte, Nat.reduceEqDiff, Nat.reduceAdd, Nat.reduceSub, Nat.reduceMul, Nat.reduceLeDiff, Nat.reduceLT, Int.reduceLT, Int.reduceLE, Int.reduceEq, Int.reduceToNat, reduceCtorEq, FB, cx_spec_CoreOk, ha, loop, coreOkF, h8, h8', decide_true, decide_false, Bool.not_true, Bool.not_false, Bool.true_and, Bool.false_and, Bool.and_true, Bool.and_false]
theorem sem_impl_CoreOk_1 (n : Int) : S_impl_CoreOk_1.sem [.int .i64 n] = some (.bool (!valOk n), []) := by
  rw [sg_impl_CoreOk_1, sem_go]
  simp (maxSteps := 10000000) (disch := first | assumption | omega) only [F_impl_CoreOk_1, params, EG, EL, ↓reduceIte, Nat.reduceEqDiff, Nat.reduceAdd, Nat.reduceSub, Nat.reduceMul, Nat.reduceLeDiff, Nat.reduceLT, Int.reduceLT, Int.reduceLE, Int.reduceEq, Int.reduceToNat, reduceCtorEq, FB, cx_impl_CoreOk_1, cl_impl_ValOk, sem_impl_ValOk]
theorem sem_ix_impl_CoreOk_1 (xs : List Int) (hl : xs.length ≤ 140737488351232) : S_slices_IndexFunc_int_int.sem [.tree 1 (xs.map cI), .fn 97 []] = some (.int .i64 (fIx (fun n => !valOk n) xs 0), []) := by
  have loop : loopV X_slices_IndexFunc_int_int 0 [0, 1, 7, 8] [(1, []), (0, [4])] B0_slices_IndexFunc_int_int ⟨[(0, .tree 1 (xs.map cI)), (1, .fn 97 []), (7, .int .i64 xs.length), (8, .int .i64 0)], []⟩ = fixR 4 (fIx (fun n => !valOk n) xs 0) := by
    refine loop_list xs (fun i a => a = i) (fun i a => ⟨[(0, .tree 1 (xs.map cI)), (1, .fn 97 []), (7, .int .i64 xs.length), (8, .int .i64 (i : Int))], []⟩) (fun rest a => fixR 4 (fIx (fun n => !valOk n) rest a)) ?_ ?_ 0 rfl
    · rintro a rfl
      rw [loopV_by B0_slices_IndexFunc_int_int.eq_1]
      simp only [EG, EL, ↓reduceIte, Nat.reduceEqDiff, Nat.reduceAdd, Nat.reduceSub, Nat.reduceMul, Nat.reduceLeDiff, Nat.reduceLT, Int.reduceLT, Int.reduceLE, Int.reduceEq, Int.reduceToNat, reduceCtorEq, FB, int_lt_irrefl]
      exact fixR_nil
    · rintro i h x rest a rfl rfl rfl ih
      have hi : (a : Int) < (xs.length : Int) := by omega
      have i1 := sem_impl_CoreOk_1 xs[a]
      rw [loopV_by B0_slices_IndexFunc_int_int.eq_1]
      cases h1 : valOk xs[a]
      all_goals simp only [h1, decide_true, decide_false, Bool.not_true, Bool.not_false, Bool.true_and, Bool.false_and, Bool.and_true, Bool.and_false] at i1
      all_goals simp (maxSteps := 10000000) (disch := first | assumption | omega) only [EG, EL, ↓reduceIte, Nat.reduceEqDiff, Nat.reduceAdd, Nat.reduceSub, Nat.reduceMul, Nat.reduceLeDiff, Nat.reduceLT, Int.reduceLT, Int.reduceLE, Int.reduceEq, Int.reduceToNat, reduceCtorEq, FB, hi, wrap_succ, getRow _ _ h, ih _ rfl, cx_slices_IndexFunc_int_int, cl_impl_CoreOk_1, i1, h1, decide_true, decide_false, Bool.not_true, Bool.not_false, Bool.true_and, Bool.false_and, Bool.and_true, Bool.and_false]
      all_goals first | exact fixR_yes (by simp [h1]) | exact fixR_no (by simp [h1])
  rw [sg_slices_IndexFunc_int_int, sem_go]
  simp (maxSteps := 10000000) (disch := first | assumption | omega) only [F_slices_IndexFunc_int_int, params, EG, EL, ↓reduceIte, Nat.reduceEqDiff, Nat.reduceAdd, Nat.reduceSub, Nat.reduceMul, Nat.reduceLeDiff, Nat.reduceLT, Int.reduceLT, Int.reduceLE, Int.reduceEq, Int.reduceToNat, reduceCtorEq, FB, loop, goE_fixR]
  rcases @fIx_ge _ (fun n => !valOk n) xs 0 with h | h
  · simp [h]
  · rw [if_neg (by omega)]
theorem sem_ct_impl_CoreOk_1 (xs : List Int) (hl : xs.length ≤ 140737488351232) : S_slices_ContainsFunc_int_int.sem [.tree 1 (xs.map cI), .fn 97 []] = some (.bool (!(xs.all valOk)), []) := by
  rw [sg_slices_ContainsFunc_int_int, sem_go]
  simp (maxSteps := 10000000) (disch := first | assumption | omega) only [F_slices_ContainsFunc_int_int, params, EG, EL, ↓reduceIte, Nat.reduceEqDiff, Nat.reduceAdd, Nat.reduceSub, Nat.reduceMul, Nat.reduceLeDiff, Nat.reduceLT, Int.reduceLT, Int.reduceLE, Int.reduceEq, Int.reduceToNat, reduceCtorEq, FB, cx_slices_ContainsFunc_int_int, cl_slices_IndexFunc_int_int, sem_ix_impl_CoreOk_1, fIx_any, Bool.decide_eq_true, any_valOk]
  cases xs.all valOk <;> rfl
theorem sem_impl_CoreOk (x : DCore) (hl : x.Regs.length ≤ 140737488351232) : S_impl_CoreOk.sem [.agg (cCore x)] = some (.bool (coreOkF x), []) := by
  rw [sg_impl_CoreOk, sem_go]
  by_cases h8 : x.Regs.length = 8
  · have h8' : (x.Regs.length : Int) = 8 := by omega
    cases ha : x.Regs.all valOk <;> by_cases hp : 0 ≤ x.Pc
    all_goals simp (maxSteps := 10000000) (disch := first | assumption | omega) only [cCore, F_impl_CoreOk, params, EG, EL, ↓reduceIte, Nat.reduceEqDiff, Nat.reduceAdd, Nat.reduceSub, Nat.reduceMul, Nat.reduceLeDiff, Nat.reduceLT, Int.reduceLT, Int.reduceLE, Int.reduceEq, Int.reduceToNat, reduceCtorEq, FB, cx_impl_CoreOk, ha, coreOkF, h8, h8', hp, cl_impl_within, sem_impl_within, cl_slices_ContainsFunc_int_int, sem_ct_impl_CoreOk_1, decide_true, decide_false, Bool.not_true, Bool.not_false, Bool.true_and, Bool.false_and, Bool.and_true, Bool.and_false]
  · have h8' : ¬ (x.Regs.length : Int) = 8 := by omega
    simp (maxSteps := 10000000) (disch := first | assumption | omega) only [cCore, F_impl_CoreOk, params, EG, EL, ↓reduceIte, Nat.reduceEqDiff, Nat.reduceAdd, Nat.reduceSub, Nat.reduceMul, Nat.reduceLeDiff, Nat.reduceLT, Int.reduceLT, Int.reduceLE, Int.reduceEq, Int.reduceToNat, reduceCtorEq, FB, cx_impl_CoreOk, coreOkF, h8, h8', decide_true, decide_false, Bool.not_true, Bool.not_false, Bool.true_and, Bool.false_and, Bool.and_true, Bool.and_false]
theorem sem_impl_wordAt (t : List Int) (pc : Int) (hl : t.length ≤ 1048576) : S_impl_wordAt.sem [.tree 1 (t.map cI), .int .i64 pc] = some (wordR t pc, []) := by
  rw [sg_impl_wordAt, sem_go]
  have hw : IntKind.wrap .i64 ((t.length : Int) - 1) = (t.length : Int) - 1 := wrapI (by omega) (by omega)
  by_cases h : 0 ≤ pc ∧ pc ≤ (t.length : Int) - 1
  · obtain ⟨n, rfl⟩ : ∃ n : Nat, pc = (n : Int) := ⟨pc.toNat, by omega⟩
    have hn : n < t.length := by omega
    have hn' : (n : Int) < (t.length : Int) := by omega
    have hg : t.getD n 0 = t[n] := by simp [hn]
    cases hd : decOk t[n]
    all_goals simp (maxSteps := 10000000) (disch := first | assumption | omega) only [F_impl_wordAt, params, EG, EL, ↓reduceIte, Nat.reduceEqDiff, Nat.reduceAdd, Nat.reduceSub, Nat.reduceMul, Nat.reduceLeDiff, Nat.reduceLT, Int.reduceLT, Int.reduceLE, Int.reduceEq, Int.reduceToNat, reduceCtorEq, FB, ED, FT, cx_impl_wordAt, cl_impl_within, sem_impl_within, cl_impl_Decode, sem_impl_Decode, wordR, decR, h, hw, hg, hd, getRow _ _ hn, hn', Int.toNat_natCast, and_self, decide_true, decide_false, Bool.not_true, Bool.not_false, Bool.true_and, Bool.false_and, Bool.and_true, Bool.and_false]
  · simp (maxSteps := 10000000) (disch := first | assumption | omega) only [F_impl_wordAt, params, EG, EL, ↓reduceIte, Nat.reduceEqDiff, Nat.reduceAdd, Nat.reduceSub, Nat.reduceMul, Nat.reduceLeDiff, Nat.reduceLT, Int.reduceLT, Int.reduceLE, Int.reduceEq, Int.reduceToNat, reduceCtorEq, FB, ED, FT, cx_impl_wordAt, cl_impl_within, sem_impl_within, wordR, h, hw, decide_true, decide_false, Bool.not_true, Bool.not_false, Bool.true_and, Bool.false_and, Bool.and_true, Bool.and_false]
theorem sem_impl_usesMem (op a b c : Int) : S_impl_usesMem.sem [.agg [.int .i64 op, .int .i64 a, .int .i64 b, .int .i64 c]] = some (.bool (memF op), []) := by
  rw [sg_impl_usesMem, sem_go]
  by_cases h2 : op = 2 <;> by_cases h3 : op = 3 <;> simp (maxSteps := 10000000) (disch := first | assumption | omega) only [F_impl_usesMem, params, EG, EL, ↓reduceIte, Nat.reduceEqDiff, Nat.reduceAdd, Nat.reduceSub, Nat.reduceMul, Nat.reduceLeDiff, Nat.reduceLT, Int.reduceLT, Int.reduceLE, Int.reduceEq, Int.reduceToNat, reduceCtorEq, FB, ED, cx_impl_usesMem, memF, h2, h3, decide_true, decide_false, Bool.not_true, Bool.not_false, Bool.true_and, Bool.false_and, Bool.and_true, Bool.and_false, Bool.true_or, Bool.false_or]
def stepG (x : DCore) (m : List Int) (op : Int) (a b c : Nat) : DCore × List Int × Int :=
  if op = 2 ∨ op = 3 ∨ op = 9 then
    if m.length ≤ c then (x, m, 4)
    else if op = 3 then ({ x with Pc := IntKind.wrap .i64 (x.Pc + 1) }, m.set c (x.Regs.getD a 0), 0)
    else if valOk (m.getD c 0) = true then ({ x with Regs := x.Regs.set a (m.getD c 0), Pc := IntKind.wrap .i64 (x.Pc + 1) }, if op = 9 then m.set c 1 else m, 0)
    else (x, m, 4)
  else if op = 7 then ({ x with Pc := if x.Regs.getD a 0 = 0 then (c : Int) else IntKind.wrap .i64 (x.Pc + 1) }, m, 0)
  else if op = 8 then ({ x with Pc := (c : Int) }, m, 0)
  else if op = 10 then ({ x with Pc := IntKind.wrap .i64 (x.Pc + 1) }, m, 10)
  else
    let r : Int × Int := if op = 1 then ((c : Int), 0) else if op = 4 then calcF c (x.Regs.getD a 0) (x.Regs.getD b 0) else if op = 5 then (bitF (decide (x.Regs.getD a 0 = 0)), 0) else negF (x.Regs.getD a 0)
    if r.2 = 0 then ({ x with Regs := x.Regs.set a r.1, Pc := IntKind.wrap .i64 (x.Pc + 1) }, m, 0) else (x, m, r.2)
def stepF (x : DCore) (t m : List Int) : DCore × List Int × Int :=
  if coreOkF x = true ∧ (0 ≤ x.Pc ∧ x.Pc ≤ (t.length : Int) - 1) ∧ decOk (t.getD x.Pc.toNat 0) = true then stepG x m (dOp (t.getD x.Pc.toNat 0)) (dA (t.getD x.Pc.toNat 0)).toNat (dB (t.getD x.Pc.toNat 0)).toNat (dC (t.getD x.Pc.toNat 0)).toNat else (x, m, 4)
theorem decOk_bounds {w : Int} (h : decOk w = true) : ∃ op : Int, ∃ a b c : Nat, dOp w = op ∧ dA w = (a : Int) ∧ dB w = (b : Int) ∧ dC w = (c : Int) ∧ (1 ≤ op ∧ op ≤ 10) ∧ a < 8 ∧ b < 8 ∧ c ≤ 4194303 := by
  simp only [decOk, insOk, Bool.and_eq_true, decide_eq_true_eq] at h
  exact ⟨dOp w, (dA w).toNat, (dB w).toNat, (dC w).toNat, rfl, by omega, by omega, by omega, by omega, by omega, by omega, by omega⟩
theorem coreOk_len {x : DCore} (h : coreOkF x = true) : x.Regs.length = 8 ∧ 0 ≤ x.Pc := by
  simp only [coreOkF, Bool.and_eq_true, decide_eq_true_eq] at h
  exact ⟨h.2.1, h.2.2.1⟩
set_option maxHeartbeats 4000000 in
theorem sem_spec_StepCore (x : DCore) (t m : List Int) (hr : x.Regs.length ≤ 1048576) (ht : t.length ≤ 1048576) (hm : m.length ≤ 1048576) : S_spec_StepCore.sem [.agg (cCore x), .tree 1 (t.map cI), .tree 1 (m.map cI)] = some (.tup [.agg (cCore (stepF x t m).1), .tree 1 ((stepF x t m).2.1.map cI), .int .i64 (stepF x t m).2.2], []) := by
  obtain ⟨rs, pc, pr⟩ := x
  simp only at hr
  have hk := sem_spec_l15Copy ⟨rs, pc, pr⟩ hr
  have ho := sem_spec_CoreOk ⟨rs, pc, pr⟩ (Nat.le_trans hr (by omega))
  have hw : IntKind.wrap .i64 ((t.length : Int) - 1) = (t.length : Int) - 1 := wrapI (by omega) (by omega)
  have hw2 : IntKind.wrap .i64 ((m.length : Int) - 1) = (m.length : Int) - 1 := wrapI (by omega) (by omega)
  have hcap : m.length * 8 ≤ 70368744177664 := by omega
  have hcap2 : rs.length * 8 ≤ 70368744177664 := by omega
  simp only [cCore] at hk ho
  rw [sg_spec_StepCore, sem_go]
  by_cases hp : 0 ≤ pc ∧ pc ≤ (t.length : Int) - 1
  · obtain ⟨p, rfl⟩ : ∃ n : Nat, pc = (n : Int) := ⟨pc.toNat, by omega⟩
    have hpn : p < t.length := by omega
    have hpn' : (p : Int) < (t.length : Int) := by omega
    have hg : t.getD p 0 = t[p] := by simp [hpn]
    cases hd : decOk t[p]
    · have e : stepF ⟨rs, p, pr⟩ t m = (⟨rs, p, pr⟩, m, 4) := by simp only [stepF, Int.toNat_natCast, hg, hd]; simp
      have hD := sem_spec_Decode t[p]
      simp only [decR, hd, if_false, Bool.false_eq_true] at hD
      cases hc : coreOkF ⟨rs, p, pr⟩ <;> simp only [hc] at ho
      all_goals simp (maxSteps := 10000000) (disch := first | assumption | omega) only [cCore, F_spec_StepCore, params, EG, EL, ↓reduceIte, Nat.reduceEqDiff, Nat.reduceAdd, Nat.reduceSub, Nat.reduceMul, Nat.reduceLeDiff, Nat.reduceLT, Int.reduceLT, Int.reduceLE, Int.reduceEq, Int.reduceToNat, reduceCtorEq, FB, ED, FT, cx_spec_StepCore, hw, hw2, hcap, hcap2, and_self, hp, cl_spec_l15Copy, hk, cl_spec_l15Step, run_goF, F_spec_l15Step, cx_spec_l15Step, cl_spec_CoreOk, ho, cl_spec_l01In, sem_spec_l01In, cl_spec_Decode, hD, cl_spec_l15Mem, F_spec_l15Mem, cx_spec_l15Mem, cl_spec_l15Calc, F_spec_l15Calc, cx_spec_l15Calc, cl_spec_ValOk, sem_spec_ValOk, cl_spec_Calc, sem_spec_Calc, cl_spec_Denied, sem_spec_Denied, cl_spec_Negated, sem_spec_Negated, decide_true, decide_false, Bool.not_true, Bool.not_false, Bool.true_and, Bool.false_and, Bool.and_true, Bool.and_false, Bool.true_or, Bool.false_or, Bool.or_false, Bool.or_true, e, hpn', getRow _ _ hpn]
    · obtain ⟨op, a, b, c, e1, e2, e3, e4, hop, ha, hb, hcc⟩ := decOk_bounds hd
      have hD := sem_spec_Decode t[p]
      simp only [decR, hd, if_true, e1, e2, e3, e4] at hD
      cases hc : coreOkF ⟨rs, p, pr⟩ <;> simp only [hc] at ho
      · have e : stepF ⟨rs, p, pr⟩ t m = (⟨rs, p, pr⟩, m, 4) := by simp only [stepF, hc]; simp
        simp (maxSteps := 10000000) (disch := first | assumption | omega) only [cCore, F_spec_StepCore, params, EG, EL, ↓reduceIte, Nat.reduceEqDiff, Nat.reduceAdd, Nat.reduceSub, Nat.reduceMul, Nat.reduceLeDiff, Nat.reduceLT, Int.reduceLT, Int.reduceLE, Int.reduceEq, Int.reduceToNat, reduceCtorEq, FB, ED, FT, cx_spec_StepCore, hw, hw2, hcap, hcap2, and_self, hp, cl_spec_l15Copy, hk, cl_spec_l15Step, run_goF, F_spec_l15Step, cx_spec_l15Step, cl_spec_CoreOk, ho, cl_spec_l01In, sem_spec_l01In, cl_spec_Decode, hD, cl_spec_l15Mem, F_spec_l15Mem, cx_spec_l15Mem, cl_spec_l15Calc, F_spec_l15Calc, cx_spec_l15Calc, cl_spec_ValOk, sem_spec_ValOk, cl_spec_Calc, sem_spec_Calc, cl_spec_Denied, sem_spec_Denied, cl_spec_Negated, sem_spec_Negated, decide_true, decide_false, Bool.not_true, Bool.not_false, Bool.true_and, Bool.false_and, Bool.and_true, Bool.and_false, Bool.true_or, Bool.false_or, Bool.or_false, Bool.or_true, e, hpn', getRow _ _ hpn]
      · obtain ⟨h8, h0⟩ := coreOk_len hc
        simp only at h8 h0
        have har : a < rs.length := by omega
        have hbr : b < rs.length := by omega
        have har' : (a : Int) < (rs.length : Int) := by omega
        have hbr' : (b : Int) < (rs.length : Int) := by omega
        have hga : rs.getD a 0 = rs[a] := by simp [har]
        have hgb : rs.getD b 0 = rs[b] := by simp [hbr]
        have hss : rs.set a rs[a] = rs := List.set_getElem_self ..
        have e : stepF ⟨rs, p, pr⟩ t m = stepG ⟨rs, p, pr⟩ m op a b c := by
          simp only [stepF, Int.toNat_natCast, hg, hd, hc, e1, e2, e3, e4]
          rw [if_pos ⟨trivial, hp, trivial⟩]
        rw [e]
        have : op = 1 ∨ op = 2 ∨ op = 3 ∨ op = 4 ∨ op = 5 ∨ op = 6 ∨ op = 7 ∨ op = 8 ∨ op = 9 ∨ op = 10 := by omega
        rcases this with rfl | rfl | rfl | rfl | rfl | rfl | rfl | rfl | rfl | rfl
        · simp (maxSteps := 10000000) (disch := first | assumption | omega) only [cCore, F_spec_StepCore, params, EG, EL, ↓reduceIte, Nat.reduceEqDiff, Nat.reduceAdd, Nat.reduceSub, Nat.reduceMul, Nat.reduceLeDiff, Nat.reduceLT, Int.reduceLT, Int.reduceLE, Int.reduceEq, Int.reduceToNat, reduceCtorEq, FB, ED, FT, cx_spec_StepCore, hw, hw2, hcap, hcap2, and_self, hp, cl_spec_l15Copy, hk, cl_spec_l15Step, run_goF, F_spec_l15Step, cx_spec_l15Step, cl_spec_CoreOk, ho, cl_spec_l01In, sem_spec_l01In, cl_spec_Decode, hD, cl_spec_l15Mem, F_spec_l15Mem, cx_spec_l15Mem, cl_spec_l15Calc, F_spec_l15Calc, cx_spec_l15Calc, cl_spec_ValOk, sem_spec_ValOk, cl_spec_Calc, sem_spec_Calc, cl_spec_Denied, sem_spec_Denied, cl_spec_Negated, sem_spec_Negated, decide_true, decide_false, Bool.not_true, Bool.not_false, Bool.true_and, Bool.false_and, Bool.and_true, Bool.and_false, Bool.true_or, Bool.false_or, Bool.or_false, Bool.or_true, hpn', getRow _ _ hpn, getRow _ _ har, getRow _ _ hbr, har, hbr, har', hbr', hga, hgb, hss, stepG, true_or, or_true, false_or, or_false, or_self]
        · by_cases hcm : c < m.length
          rotate_left
          · have hcm1 : ¬ (c : Int) ≤ (m.length : Int) - 1 := by omega
            have hcm2 : (m.length : Int) ≤ (c : Int) := by omega
            have hcm3 : m.length ≤ c := by omega
            have hcm4 : ¬ (c : Int) < (m.length : Int) := by omega
            simp (maxSteps := 10000000) (disch := first | assumption | omega) only [cCore, F_spec_StepCore, params, EG, EL, ↓reduceIte, Nat.reduceEqDiff, Nat.reduceAdd, Nat.reduceSub, Nat.reduceMul, Nat.reduceLeDiff, Nat.reduceLT, Int.reduceLT, Int.reduceLE, Int.reduceEq, Int.reduceToNat, reduceCtorEq, FB, ED, FT, cx_spec_StepCore, hw, hw2, hcap, hcap2, and_self, hp, cl_spec_l15Copy, hk, cl_spec_l15Step, run_goF, F_spec_l15Step, cx_spec_l15Step, cl_spec_CoreOk, ho, cl_spec_l01In, sem_spec_l01In, cl_spec_Decode, hD, cl_spec_l15Mem, F_spec_l15Mem, cx_spec_l15Mem, cl_spec_l15Calc, F_spec_l15Calc, cx_spec_l15Calc, cl_spec_ValOk, sem_spec_ValOk, cl_spec_Calc, sem_spec_Calc, cl_spec_Denied, sem_spec_Denied, cl_spec_Negated, sem_spec_Negated, decide_true, decide_false, Bool.not_true, Bool.not_false, Bool.true_and, Bool.false_and, Bool.and_true, Bool.and_false, Bool.true_or, Bool.false_or, Bool.or_false, Bool.or_true, hpn', getRow _ _ hpn, getRow _ _ har, getRow _ _ hbr, har, hbr, har', hbr', hga, hgb, hss, stepG, true_or, or_true, false_or, or_false, or_self, hcm, hcm1, hcm2, hcm3, hcm4]
          · have hcm1 : (c : Int) ≤ (m.length : Int) - 1 := by omega
            have hcm2 : ¬ (m.length : Int) ≤ (c : Int) := by omega
            have hcm3 : ¬ m.length ≤ c := by omega
            have hcm4 : (c : Int) < (m.length : Int) := by omega
            have hgm : m.getD c 0 = m[c] := by simp [hcm]
            cases hv : valOk m[c]
            all_goals simp (maxSteps := 10000000) (disch := first | assumption | omega) only [cCore, F_spec_StepCore, params, EG, EL, ↓reduceIte, Nat.reduceEqDiff, Nat.reduceAdd, Nat.reduceSub, Nat.reduceMul, Nat.reduceLeDiff, Nat.reduceLT, Int.reduceLT, Int.reduceLE, Int.reduceEq, Int.reduceToNat, reduceCtorEq, FB, ED, FT, cx_spec_StepCore, hw, hw2, hcap, hcap2, and_self, hp, cl_spec_l15Copy, hk, cl_spec_l15Step, run_goF, F_spec_l15Step, cx_spec_l15Step, cl_spec_CoreOk, ho, cl_spec_l01In, sem_spec_l01In, cl_spec_Decode, hD, cl_spec_l15Mem, F_spec_l15Mem, cx_spec_l15Mem, cl_spec_l15Calc, F_spec_l15Calc, cx_spec_l15Calc, cl_spec_ValOk, sem_spec_ValOk, cl_spec_Calc, sem_spec_Calc, cl_spec_Denied, sem_spec_Denied, cl_spec_Negated, sem_spec_Negated, decide_true, decide_false, Bool.not_true, Bool.not_false, Bool.true_and, Bool.false_and, Bool.and_true, Bool.and_false, Bool.true_or, Bool.false_or, Bool.or_false, Bool.or_true, hpn', getRow _ _ hpn, getRow _ _ har, getRow _ _ hbr, har, hbr, har', hbr', hga, hgb, hgm, hv, hss, stepG, true_or, or_true, false_or, or_false, or_self, hcm, hcm1, hcm2, hcm3, hcm4, getRow _ _ hcm]
        · by_cases hcm : c < m.length
          rotate_left
          · have hcm1 : ¬ (c : Int) ≤ (m.length : Int) - 1 := by omega
            have hcm2 : (m.length : Int) ≤ (c : Int) := by omega
            have hcm3 : m.length ≤ c := by omega
            have hcm4 : ¬ (c : Int) < (m.length : Int) := by omega
            simp (maxSteps := 10000000) (disch := first | assumption | omega) only [cCore, F_spec_StepCore, params, EG, EL, ↓reduceIte, Nat.reduceEqDiff, Nat.reduceAdd, Nat.reduceSub, Nat.reduceMul, Nat.reduceLeDiff, Nat.reduceLT, Int.reduceLT, Int.reduceLE, Int.reduceEq, Int.reduceToNat, reduceCtorEq, FB, ED, FT, cx_spec_StepCore, hw, hw2, hcap, hcap2, and_self, hp, cl_spec_l15Copy, hk, cl_spec_l15Step, run_goF, F_spec_l15Step, cx_spec_l15Step, cl_spec_CoreOk, ho, cl_spec_l01In, sem_spec_l01In, cl_spec_Decode, hD, cl_spec_l15Mem, F_spec_l15Mem, cx_spec_l15Mem, cl_spec_l15Calc, F_spec_l15Calc, cx_spec_l15Calc, cl_spec_ValOk, sem_spec_ValOk, cl_spec_Calc, sem_spec_Calc, cl_spec_Denied, sem_spec_Denied, cl_spec_Negated, sem_spec_Negated, decide_true, decide_false, Bool.not_true, Bool.not_false, Bool.true_and, Bool.false_and, Bool.and_true, Bool.and_false, Bool.true_or, Bool.false_or, Bool.or_false, Bool.or_true, hpn', getRow _ _ hpn, getRow _ _ har, getRow _ _ hbr, har, hbr, har', hbr', hga, hgb, hss, stepG, true_or, or_true, false_or, or_false, or_self, hcm, hcm1, hcm2, hcm3, hcm4]
          · have hcm1 : (c : Int) ≤ (m.length : Int) - 1 := by omega
            have hcm2 : ¬ (m.length : Int) ≤ (c : Int) := by omega
            have hcm3 : ¬ m.length ≤ c := by omega
            have hcm4 : (c : Int) < (m.length : Int) := by omega
            have hgm : m.getD c 0 = m[c] := by simp [hcm]
            simp (maxSteps := 10000000) (disch := first | assumption | omega) only [cCore, F_spec_StepCore, params, EG, EL, ↓reduceIte, Nat.reduceEqDiff, Nat.reduceAdd, Nat.reduceSub, Nat.reduceMul, Nat.reduceLeDiff, Nat.reduceLT, Int.reduceLT, Int.reduceLE, Int.reduceEq, Int.reduceToNat, reduceCtorEq, FB, ED, FT, cx_spec_StepCore, hw, hw2, hcap, hcap2, and_self, hp, cl_spec_l15Copy, hk, cl_spec_l15Step, run_goF, F_spec_l15Step, cx_spec_l15Step, cl_spec_CoreOk, ho, cl_spec_l01In, sem_spec_l01In, cl_spec_Decode, hD, cl_spec_l15Mem, F_spec_l15Mem, cx_spec_l15Mem, cl_spec_l15Calc, F_spec_l15Calc, cx_spec_l15Calc, cl_spec_ValOk, sem_spec_ValOk, cl_spec_Calc, sem_spec_Calc, cl_spec_Denied, sem_spec_Denied, cl_spec_Negated, sem_spec_Negated, decide_true, decide_false, Bool.not_true, Bool.not_false, Bool.true_and, Bool.false_and, Bool.and_true, Bool.and_false, Bool.true_or, Bool.false_or, Bool.or_false, Bool.or_true, hpn', getRow _ _ hpn, getRow _ _ har, getRow _ _ hbr, har, hbr, har', hbr', hga, hgb, hss, stepG, true_or, or_true, false_or, or_false, or_self, hcm, hcm1, hcm2, hcm3, hcm4, getRow _ _ hcm]
        · by_cases hq : (calcF c rs[a] rs[b]).2 = 0
          all_goals simp (maxSteps := 10000000) (disch := first | assumption | omega) only [cCore, F_spec_StepCore, params, EG, EL, ↓reduceIte, Nat.reduceEqDiff, Nat.reduceAdd, Nat.reduceSub, Nat.reduceMul, Nat.reduceLeDiff, Nat.reduceLT, Int.reduceLT, Int.reduceLE, Int.reduceEq, Int.reduceToNat, reduceCtorEq, FB, ED, FT, cx_spec_StepCore, hw, hw2, hcap, hcap2, and_self, hp, cl_spec_l15Copy, hk, cl_spec_l15Step, run_goF, F_spec_l15Step, cx_spec_l15Step, cl_spec_CoreOk, ho, cl_spec_l01In, sem_spec_l01In, cl_spec_Decode, hD, cl_spec_l15Mem, F_spec_l15Mem, cx_spec_l15Mem, cl_spec_l15Calc, F_spec_l15Calc, cx_spec_l15Calc, cl_spec_ValOk, sem_spec_ValOk, cl_spec_Calc, sem_spec_Calc, cl_spec_Denied, sem_spec_Denied, cl_spec_Negated, sem_spec_Negated, decide_true, decide_false, Bool.not_true, Bool.not_false, Bool.true_and, Bool.false_and, Bool.and_true, Bool.and_false, Bool.true_or, Bool.false_or, Bool.or_false, Bool.or_true, hpn', getRow _ _ hpn, getRow _ _ har, getRow _ _ hbr, har, hbr, har', hbr', hga, hgb, hss, stepG, true_or, or_true, false_or, or_false, or_self, hq]
        · simp (maxSteps := 10000000) (disch := first | assumption | omega) only [cCore, F_spec_StepCore, params, EG, EL, ↓reduceIte, Nat.reduceEqDiff, Nat.reduceAdd, Nat.reduceSub, Nat.reduceMul, Nat.reduceLeDiff, Nat.reduceLT, Int.reduceLT, Int.reduceLE, Int.reduceEq, Int.reduceToNat, reduceCtorEq, FB, ED, FT, cx_spec_StepCore, hw, hw2, hcap, hcap2, and_self, hp, cl_spec_l15Copy, hk, cl_spec_l15Step, run_goF, F_spec_l15Step, cx_spec_l15Step, cl_spec_CoreOk, ho, cl_spec_l01In, sem_spec_l01In, cl_spec_Decode, hD, cl_spec_l15Mem, F_spec_l15Mem, cx_spec_l15Mem, cl_spec_l15Calc, F_spec_l15Calc, cx_spec_l15Calc, cl_spec_ValOk, sem_spec_ValOk, cl_spec_Calc, sem_spec_Calc, cl_spec_Denied, sem_spec_Denied, cl_spec_Negated, sem_spec_Negated, decide_true, decide_false, Bool.not_true, Bool.not_false, Bool.true_and, Bool.false_and, Bool.and_true, Bool.and_false, Bool.true_or, Bool.false_or, Bool.or_false, Bool.or_true, hpn', getRow _ _ hpn, getRow _ _ har, getRow _ _ hbr, har, hbr, har', hbr', hga, hgb, hss, stepG, true_or, or_true, false_or, or_false, or_self]
        · by_cases hq : (negF rs[a]).2 = 0
          all_goals simp (maxSteps := 10000000) (disch := first | assumption | omega) only [cCore, F_spec_StepCore, params, EG, EL, ↓reduceIte, Nat.reduceEqDiff, Nat.reduceAdd, Nat.reduceSub, Nat.reduceMul, Nat.reduceLeDiff, Nat.reduceLT, Int.reduceLT, Int.reduceLE, Int.reduceEq, Int.reduceToNat, reduceCtorEq, FB, ED, FT, cx_spec_StepCore, hw, hw2, hcap, hcap2, and_self, hp, cl_spec_l15Copy, hk, cl_spec_l15Step, run_goF, F_spec_l15Step, cx_spec_l15Step, cl_spec_CoreOk, ho, cl_spec_l01In, sem_spec_l01In, cl_spec_Decode, hD, cl_spec_l15Mem, F_spec_l15Mem, cx_spec_l15Mem, cl_spec_l15Calc, F_spec_l15Calc, cx_spec_l15Calc, cl_spec_ValOk, sem_spec_ValOk, cl_spec_Calc, sem_spec_Calc, cl_spec_Denied, sem_spec_Denied, cl_spec_Negated, sem_spec_Negated, decide_true, decide_false, Bool.not_true, Bool.not_false, Bool.true_and, Bool.false_and, Bool.and_true, Bool.and_false, Bool.true_or, Bool.false_or, Bool.or_false, Bool.or_true, hpn', getRow _ _ hpn, getRow _ _ har, getRow _ _ hbr, har, hbr, har', hbr', hga, hgb, hss, stepG, true_or, or_true, false_or, or_false, or_self, hq]
        · by_cases hq : rs[a] = 0
          · have hs0 : rs.set a 0 = rs := by rw [← hq]; exact hss
            simp (maxSteps := 10000000) (disch := first | assumption | omega) only [cCore, F_spec_StepCore, params, EG, EL, ↓reduceIte, Nat.reduceEqDiff, Nat.reduceAdd, Nat.reduceSub, Nat.reduceMul, Nat.reduceLeDiff, Nat.reduceLT, Int.reduceLT, Int.reduceLE, Int.reduceEq, Int.reduceToNat, reduceCtorEq, FB, ED, FT, cx_spec_StepCore, hw, hw2, hcap, hcap2, and_self, hp, cl_spec_l15Copy, hk, cl_spec_l15Step, run_goF, F_spec_l15Step, cx_spec_l15Step, cl_spec_CoreOk, ho, cl_spec_l01In, sem_spec_l01In, cl_spec_Decode, hD, cl_spec_l15Mem, F_spec_l15Mem, cx_spec_l15Mem, cl_spec_l15Calc, F_spec_l15Calc, cx_spec_l15Calc, cl_spec_ValOk, sem_spec_ValOk, cl_spec_Calc, sem_spec_Calc, cl_spec_Denied, sem_spec_Denied, cl_spec_Negated, sem_spec_Negated, decide_true, decide_false, Bool.not_true, Bool.not_false, Bool.true_and, Bool.false_and, Bool.and_true, Bool.and_false, Bool.true_or, Bool.false_or, Bool.or_false, Bool.or_true, hpn', getRow _ _ hpn, getRow _ _ har, getRow _ _ hbr, har, hbr, har', hbr', hga, hgb, hss, stepG, true_or, or_true, false_or, or_false, or_self, hq, hs0]
          · simp (maxSteps := 10000000) (disch := first | assumption | omega) only [cCore, F_spec_StepCore, params, EG, EL, ↓reduceIte, Nat.reduceEqDiff, Nat.reduceAdd, Nat.reduceSub, Nat.reduceMul, Nat.reduceLeDiff, Nat.reduceLT, Int.reduceLT, Int.reduceLE, Int.reduceEq, Int.reduceToNat, reduceCtorEq, FB, ED, FT, cx_spec_StepCore, hw, hw2, hcap, hcap2, and_self, hp, cl_spec_l15Copy, hk, cl_spec_l15Step, run_goF, F_spec_l15Step, cx_spec_l15Step, cl_spec_CoreOk, ho, cl_spec_l01In, sem_spec_l01In, cl_spec_Decode, hD, cl_spec_l15Mem, F_spec_l15Mem, cx_spec_l15Mem, cl_spec_l15Calc, F_spec_l15Calc, cx_spec_l15Calc, cl_spec_ValOk, sem_spec_ValOk, cl_spec_Calc, sem_spec_Calc, cl_spec_Denied, sem_spec_Denied, cl_spec_Negated, sem_spec_Negated, decide_true, decide_false, Bool.not_true, Bool.not_false, Bool.true_and, Bool.false_and, Bool.and_true, Bool.and_false, Bool.true_or, Bool.false_or, Bool.or_false, Bool.or_true, hpn', getRow _ _ hpn, getRow _ _ har, getRow _ _ hbr, har, hbr, har', hbr', hga, hgb, hss, stepG, true_or, or_true, false_or, or_false, or_self, hq]
        · simp (maxSteps := 10000000) (disch := first | assumption | omega) only [cCore, F_spec_StepCore, params, EG, EL, ↓reduceIte, Nat.reduceEqDiff, Nat.reduceAdd, Nat.reduceSub, Nat.reduceMul, Nat.reduceLeDiff, Nat.reduceLT, Int.reduceLT, Int.reduceLE, Int.reduceEq, Int.reduceToNat, reduceCtorEq, FB, ED, FT, cx_spec_StepCore, hw, hw2, hcap, hcap2, and_self, hp, cl_spec_l15Copy, hk, cl_spec_l15Step, run_goF, F_spec_l15Step, cx_spec_l15Step, cl_spec_CoreOk, ho, cl_spec_l01In, sem_spec_l01In, cl_spec_Decode, hD, cl_spec_l15Mem, F_spec_l15Mem, cx_spec_l15Mem, cl_spec_l15Calc, F_spec_l15Calc, cx_spec_l15Calc, cl_spec_ValOk, sem_spec_ValOk, cl_spec_Calc, sem_spec_Calc, cl_spec_Denied, sem_spec_Denied, cl_spec_Negated, sem_spec_Negated, decide_true, decide_false, Bool.not_true, Bool.not_false, Bool.true_and, Bool.false_and, Bool.and_true, Bool.and_false, Bool.true_or, Bool.false_or, Bool.or_false, Bool.or_true, hpn', getRow _ _ hpn, getRow _ _ har, getRow _ _ hbr, har, hbr, har', hbr', hga, hgb, hss, stepG, true_or, or_true, false_or, or_false, or_self]
        · by_cases hcm : c < m.length
          rotate_left
          · have hcm1 : ¬ (c : Int) ≤ (m.length : Int) - 1 := by omega
            have hcm2 : (m.length : Int) ≤ (c : Int) := by omega
            have hcm3 : m.length ≤ c := by omega
            have hcm4 : ¬ (c : Int) < (m.length : Int) := by omega
            simp (maxSteps := 10000000) (disch := first | assumption | omega) only [cCore, F_spec_StepCore, params, EG, EL, ↓reduceIte, Nat.reduceEqDiff, Nat.reduceAdd, Nat.reduceSub, Nat.reduceMul, Nat.reduceLeDiff, Nat.reduceLT, Int.reduceLT, Int.reduceLE, Int.reduceEq, Int.reduceToNat, reduceCtorEq, FB, ED, FT, cx_spec_StepCore, hw, hw2, hcap, hcap2, and_self, hp, cl_spec_l15Copy, hk, cl_spec_l15Step, run_goF, F_spec_l15Step, cx_spec_l15Step, cl_spec_CoreOk, ho, cl_spec_l01In, sem_spec_l01In, cl_spec_Decode, hD, cl_spec_l15Mem, F_spec_l15Mem, cx_spec_l15Mem, cl_spec_l15Calc, F_spec_l15Calc, cx_spec_l15Calc, cl_spec_ValOk, sem_spec_ValOk, cl_spec_Calc, sem_spec_Calc, cl_spec_Denied, sem_spec_Denied, cl_spec_Negated, sem_spec_Negated, decide_true, decide_false, Bool.not_true, Bool.not_false, Bool.true_and, Bool.false_and, Bool.and_true, Bool.and_false, Bool.true_or, Bool.false_or, Bool.or_false, Bool.or_true, hpn', getRow _ _ hpn, getRow _ _ har, getRow _ _ hbr, har, hbr, har', hbr', hga, hgb, hss, stepG, true_or, or_true, false_or, or_false, or_self, hcm, hcm1, hcm2, hcm3, hcm4]
          · have hcm1 : (c : Int) ≤ (m.length : Int) - 1 := by omega
            have hcm2 : ¬ (m.length : Int) ≤ (c : Int) := by omega
            have hcm3 : ¬ m.length ≤ c := by omega
            have hcm4 : (c : Int) < (m.length : Int) := by omega
            have hgm : m.getD c 0 = m[c] := by simp [hcm]
            cases hv : valOk m[c]
            all_goals simp (maxSteps := 10000000) (disch := first | assumption | omega) only [cCore, F_spec_StepCore, params, EG, EL, ↓reduceIte, Nat.reduceEqDiff, Nat.reduceAdd, Nat.reduceSub, Nat.reduceMul, Nat.reduceLeDiff, Nat.reduceLT, Int.reduceLT, Int.reduceLE, Int.reduceEq, Int.reduceToNat, reduceCtorEq, FB, ED, FT, cx_spec_StepCore, hw, hw2, hcap, hcap2, and_self, hp, cl_spec_l15Copy, hk, cl_spec_l15Step, run_goF, F_spec_l15Step, cx_spec_l15Step, cl_spec_CoreOk, ho, cl_spec_l01In, sem_spec_l01In, cl_spec_Decode, hD, cl_spec_l15Mem, F_spec_l15Mem, cx_spec_l15Mem, cl_spec_l15Calc, F_spec_l15Calc, cx_spec_l15Calc, cl_spec_ValOk, sem_spec_ValOk, cl_spec_Calc, sem_spec_Calc, cl_spec_Denied, sem_spec_Denied, cl_spec_Negated, sem_spec_Negated, decide_true, decide_false, Bool.not_true, Bool.not_false, Bool.true_and, Bool.false_and, Bool.and_true, Bool.and_false, Bool.true_or, Bool.false_or, Bool.or_false, Bool.or_true, hpn', getRow _ _ hpn, getRow _ _ har, getRow _ _ hbr, har, hbr, har', hbr', hga, hgb, hgm, hv, hss, stepG, true_or, or_true, false_or, or_false, or_self, hcm, hcm1, hcm2, hcm3, hcm4, getRow _ _ hcm]
        · simp (maxSteps := 10000000) (disch := first | assumption | omega) only [cCore, F_spec_StepCore, params, EG, EL, ↓reduceIte, Nat.reduceEqDiff, Nat.reduceAdd, Nat.reduceSub, Nat.reduceMul, Nat.reduceLeDiff, Nat.reduceLT, Int.reduceLT, Int.reduceLE, Int.reduceEq, Int.reduceToNat, reduceCtorEq, FB, ED, FT, cx_spec_StepCore, hw, hw2, hcap, hcap2, and_self, hp, cl_spec_l15Copy, hk, cl_spec_l15Step, run_goF, F_spec_l15Step, cx_spec_l15Step, cl_spec_CoreOk, ho, cl_spec_l01In, sem_spec_l01In, cl_spec_Decode, hD, cl_spec_l15Mem, F_spec_l15Mem, cx_spec_l15Mem, cl_spec_l15Calc, F_spec_l15Calc, cx_spec_l15Calc, cl_spec_ValOk, sem_spec_ValOk, cl_spec_Calc, sem_spec_Calc, cl_spec_Denied, sem_spec_Denied, cl_spec_Negated, sem_spec_Negated, decide_true, decide_false, Bool.not_true, Bool.not_false, Bool.true_and, Bool.false_and, Bool.and_true, Bool.and_false, Bool.true_or, Bool.false_or, Bool.or_false, Bool.or_true, hpn', getRow _ _ hpn, getRow _ _ har, getRow _ _ hbr, har, hbr, har', hbr', hga, hgb, hss, stepG, true_or, or_true, false_or, or_false, or_self]
  · have e : stepF ⟨rs, pc, pr⟩ t m = (⟨rs, pc, pr⟩, m, 4) := by
      simp only [stepF]
      rw [if_neg (by rintro ⟨_, h, _⟩; exact hp h)]
    have hD : True := trivial
    cases hc : coreOkF ⟨rs, pc, pr⟩ <;> simp only [hc] at ho
    all_goals simp (maxSteps := 10000000) (disch := first | assumption | omega) only [cCore, F_spec_StepCore, params, EG, EL, ↓reduceIte, Nat.reduceEqDiff, Nat.reduceAdd, Nat.reduceSub, Nat.reduceMul, Nat.reduceLeDiff, Nat.reduceLT, Int.reduceLT, Int.reduceLE, Int.reduceEq, Int.reduceToNat, reduceCtorEq, FB, ED, FT, cx_spec_StepCore, hw, hw2, hcap, hcap2, and_self, hp, cl_spec_l15Copy, hk, cl_spec_l15Step, run_goF, F_spec_l15Step, cx_spec_l15Step, cl_spec_CoreOk, ho, cl_spec_l01In, sem_spec_l01In, cl_spec_Decode, hD, cl_spec_l15Mem, F_spec_l15Mem, cx_spec_l15Mem, cl_spec_l15Calc, F_spec_l15Calc, cx_spec_l15Calc, cl_spec_ValOk, sem_spec_ValOk, cl_spec_Calc, sem_spec_Calc, cl_spec_Denied, sem_spec_Denied, cl_spec_Negated, sem_spec_Negated, decide_true, decide_false, Bool.not_true, Bool.not_false, Bool.true_and, Bool.false_and, Bool.and_true, Bool.and_false, Bool.true_or, Bool.false_or, Bool.or_false, Bool.or_true, e]
set_option maxHeartbeats 4000000 in
theorem sem_impl_StepCore (x : DCore) (t m : List Int) (hr : x.Regs.length ≤ 1048576) (ht : t.length ≤ 1048576) (hm : m.length ≤ 1048576) : S_impl_StepCore.sem [.agg (cCore x), .tree 1 (t.map cI), .tree 1 (m.map cI)] = some (.tup [.agg (cCore (stepF x t m).1), .tree 1 ((stepF x t m).2.1.map cI), .int .i64 (stepF x t m).2.2], []) := by
  obtain ⟨rs, pc, pr⟩ := x
  simp only at hr
  have hk := sem_impl_copyCore ⟨rs, pc, pr⟩ hr
  have ho := sem_impl_CoreOk ⟨rs, pc, pr⟩ (Nat.le_trans hr (by omega))
  have hw : IntKind.wrap .i64 ((t.length : Int) - 1) = (t.length : Int) - 1 := wrapI (by omega) (by omega)
  have hw2 : IntKind.wrap .i64 ((m.length : Int) - 1) = (m.length : Int) - 1 := wrapI (by omega) (by omega)
  have hcap : m.length * 8 ≤ 70368744177664 := by omega
  have hcap2 : rs.length * 8 ≤ 70368744177664 := by omega
  simp only [cCore] at hk ho
  rw [sg_impl_StepCore, sem_go]
  by_cases hp : 0 ≤ pc ∧ pc ≤ (t.length : Int) - 1
  · obtain ⟨p, rfl⟩ : ∃ n : Nat, pc = (n : Int) := ⟨pc.toNat, by omega⟩
    have hpn : p < t.length := by omega
    have hpn' : (p : Int) < (t.length : Int) := by omega
    have hg : t.getD p 0 = t[p] := by simp [hpn]
    cases hd : decOk t[p]
    · have e : stepF ⟨rs, p, pr⟩ t m = (⟨rs, p, pr⟩, m, 4) := by simp only [stepF, Int.toNat_natCast, hg, hd]; simp
      have hD := sem_impl_wordAt t p ht
      simp only [wordR, if_pos hp, Int.toNat_natCast, hg, decR, hd, if_false, Bool.false_eq_true] at hD
      cases hc : coreOkF ⟨rs, p, pr⟩ <;> simp only [hc] at ho
      all_goals simp (maxSteps := 10000000) (disch := first | assumption | omega) only [cCore, F_impl_StepCore, params, EG, EL, ↓reduceIte, Nat.reduceEqDiff, Nat.reduceAdd, Nat.reduceSub, Nat.reduceMul, Nat.reduceLeDiff, Nat.reduceLT, Int.reduceLT, Int.reduceLE, Int.reduceEq, Int.reduceToNat, reduceCtorEq, FB, ED, FT, cx_impl_StepCore, hw, hw2, hcap, hcap2, and_self, hp, cl_impl_copyCore, hk, cl_impl_wordAt, hD, cl_impl_CoreOk, ho, cl_impl_usesMem, sem_impl_usesMem, memF, cl_impl_ValOk, sem_impl_ValOk, cl_impl_Calc, sem_impl_Calc, cl_impl_Denied, sem_impl_Denied, cl_impl_Negated, sem_impl_Negated, decide_true, decide_false, Bool.not_true, Bool.not_false, Bool.true_and, Bool.false_and, Bool.and_true, Bool.and_false, Bool.true_or, Bool.false_or, Bool.or_false, Bool.or_true, e, hpn', getRow _ _ hpn]
    · obtain ⟨op, a, b, c, e1, e2, e3, e4, hop, ha, hb, hcc⟩ := decOk_bounds hd
      have hD := sem_impl_wordAt t p ht
      simp only [wordR, if_pos hp, Int.toNat_natCast, hg, decR, hd, if_true, e1, e2, e3, e4] at hD
      cases hc : coreOkF ⟨rs, p, pr⟩ <;> simp only [hc] at ho
      · have e : stepF ⟨rs, p, pr⟩ t m = (⟨rs, p, pr⟩, m, 4) := by simp only [stepF, hc]; simp
        simp (maxSteps := 10000000) (disch := first | assumption | omega) only [cCore, F_impl_StepCore, params, EG, EL, ↓reduceIte, Nat.reduceEqDiff, Nat.reduceAdd, Nat.reduceSub, Nat.reduceMul, Nat.reduceLeDiff, Nat.reduceLT, Int.reduceLT, Int.reduceLE, Int.reduceEq, Int.reduceToNat, reduceCtorEq, FB, ED, FT, cx_impl_StepCore, hw, hw2, hcap, hcap2, and_self, hp, cl_impl_copyCore, hk, cl_impl_wordAt, hD, cl_impl_CoreOk, ho, cl_impl_usesMem, sem_impl_usesMem, memF, cl_impl_ValOk, sem_impl_ValOk, cl_impl_Calc, sem_impl_Calc, cl_impl_Denied, sem_impl_Denied, cl_impl_Negated, sem_impl_Negated, decide_true, decide_false, Bool.not_true, Bool.not_false, Bool.true_and, Bool.false_and, Bool.and_true, Bool.and_false, Bool.true_or, Bool.false_or, Bool.or_false, Bool.or_true, e, hpn', getRow _ _ hpn]
      · obtain ⟨h8, h0⟩ := coreOk_len hc
        simp only at h8 h0
        have har : a < rs.length := by omega
        have hbr : b < rs.length := by omega
        have har' : (a : Int) < (rs.length : Int) := by omega
        have hbr' : (b : Int) < (rs.length : Int) := by omega
        have hga : rs.getD a 0 = rs[a] := by simp [har]
        have hgb : rs.getD b 0 = rs[b] := by simp [hbr]
        have hss : rs.set a rs[a] = rs := List.set_getElem_self ..
        have e : stepF ⟨rs, p, pr⟩ t m = stepG ⟨rs, p, pr⟩ m op a b c := by
          simp only [stepF, Int.toNat_natCast, hg, hd, hc, e1, e2, e3, e4]
          rw [if_pos ⟨trivial, hp, trivial⟩]
        rw [e]
        have : op = 1 ∨ op = 2 ∨ op = 3 ∨ op = 4 ∨ op = 5 ∨ op = 6 ∨ op = 7 ∨ op = 8 ∨ op = 9 ∨ op = 10 := by omega
        rcases this with rfl | rfl | rfl | rfl | rfl | rfl | rfl | rfl | rfl | rfl
        · simp (maxSteps := 10000000) (disch := first | assumption | omega) only [cCore, F_impl_StepCore, params, EG, EL, ↓reduceIte, Nat.reduceEqDiff, Nat.reduceAdd, Nat.reduceSub, Nat.reduceMul, Nat.reduceLeDiff, Nat.reduceLT, Int.reduceLT, Int.reduceLE, Int.reduceEq, Int.reduceToNat, reduceCtorEq, FB, ED, FT, cx_impl_StepCore, hw, hw2, hcap, hcap2, and_self, hp, cl_impl_copyCore, hk, cl_impl_wordAt, hD, cl_impl_CoreOk, ho, cl_impl_usesMem, sem_impl_usesMem, memF, cl_impl_ValOk, sem_impl_ValOk, cl_impl_Calc, sem_impl_Calc, cl_impl_Denied, sem_impl_Denied, cl_impl_Negated, sem_impl_Negated, decide_true, decide_false, Bool.not_true, Bool.not_false, Bool.true_and, Bool.false_and, Bool.and_true, Bool.and_false, Bool.true_or, Bool.false_or, Bool.or_false, Bool.or_true, hpn', getRow _ _ hpn, getRow _ _ har, getRow _ _ hbr, har, hbr, har', hbr', hga, hgb, hss, stepG, true_or, or_true, false_or, or_false, or_self]
        · by_cases hcm : c < m.length
          rotate_left
          · have hcm1 : ¬ (c : Int) ≤ (m.length : Int) - 1 := by omega
            have hcm2 : (m.length : Int) ≤ (c : Int) := by omega
            have hcm3 : m.length ≤ c := by omega
            have hcm4 : ¬ (c : Int) < (m.length : Int) := by omega
            simp (maxSteps := 10000000) (disch := first | assumption | omega) only [cCore, F_impl_StepCore, params, EG, EL, ↓reduceIte, Nat.reduceEqDiff, Nat.reduceAdd, Nat.reduceSub, Nat.reduceMul, Nat.reduceLeDiff, Nat.reduceLT, Int.reduceLT, Int.reduceLE, Int.reduceEq, Int.reduceToNat, reduceCtorEq, FB, ED, FT, cx_impl_StepCore, hw, hw2, hcap, hcap2, and_self, hp, cl_impl_copyCore, hk, cl_impl_wordAt, hD, cl_impl_CoreOk, ho, cl_impl_usesMem, sem_impl_usesMem, memF, cl_impl_ValOk, sem_impl_ValOk, cl_impl_Calc, sem_impl_Calc, cl_impl_Denied, sem_impl_Denied, cl_impl_Negated, sem_impl_Negated, decide_true, decide_false, Bool.not_true, Bool.not_false, Bool.true_and, Bool.false_and, Bool.and_true, Bool.and_false, Bool.true_or, Bool.false_or, Bool.or_false, Bool.or_true, hpn', getRow _ _ hpn, getRow _ _ har, getRow _ _ hbr, har, hbr, har', hbr', hga, hgb, hss, stepG, true_or, or_true, false_or, or_false, or_self, hcm, hcm1, hcm2, hcm3, hcm4]
          · have hcm1 : (c : Int) ≤ (m.length : Int) - 1 := by omega
            have hcm2 : ¬ (m.length : Int) ≤ (c : Int) := by omega
            have hcm3 : ¬ m.length ≤ c := by omega
            have hcm4 : (c : Int) < (m.length : Int) := by omega
            have hgm : m.getD c 0 = m[c] := by simp [hcm]
            cases hv : valOk m[c]
            all_goals simp (maxSteps := 10000000) (disch := first | assumption | omega) only [cCore, F_impl_StepCore, params, EG, EL, ↓reduceIte, Nat.reduceEqDiff, Nat.reduceAdd, Nat.reduceSub, Nat.reduceMul, Nat.reduceLeDiff, Nat.reduceLT, Int.reduceLT, Int.reduceLE, Int.reduceEq, Int.reduceToNat, reduceCtorEq, FB, ED, FT, cx_impl_StepCore, hw, hw2, hcap, hcap2, and_self, hp, cl_impl_copyCore, hk, cl_impl_wordAt, hD, cl_impl_CoreOk, ho, cl_impl_usesMem, sem_impl_usesMem, memF, cl_impl_ValOk, sem_impl_ValOk, cl_impl_Calc, sem_impl_Calc, cl_impl_Denied, sem_impl_Denied, cl_impl_Negated, sem_impl_Negated, decide_true, decide_false, Bool.not_true, Bool.not_false, Bool.true_and, Bool.false_and, Bool.and_true, Bool.and_false, Bool.true_or, Bool.false_or, Bool.or_false, Bool.or_true, hpn', getRow _ _ hpn, getRow _ _ har, getRow _ _ hbr, har, hbr, har', hbr', hga, hgb, hgm, hv, hss, stepG, true_or, or_true, false_or, or_false, or_self, hcm, hcm1, hcm2, hcm3, hcm4, getRow _ _ hcm]
        · by_cases hcm : c < m.length
          rotate_left
          · have hcm1 : ¬ (c : Int) ≤ (m.length : Int) - 1 := by omega
            have hcm2 : (m.length : Int) ≤ (c : Int) := by omega
            have hcm3 : m.length ≤ c := by omega
            have hcm4 : ¬ (c : Int) < (m.length : Int) := by omega
            simp (maxSteps := 10000000) (disch := first | assumption | omega) only [cCore, F_impl_StepCore, params, EG, EL, ↓reduceIte, Nat.reduceEqDiff, Nat.reduceAdd, Nat.reduceSub, Nat.reduceMul, Nat.reduceLeDiff, Nat.reduceLT, Int.reduceLT, Int.reduceLE, Int.reduceEq, Int.reduceToNat, reduceCtorEq, FB, ED, FT, cx_impl_StepCore, hw, hw2, hcap, hcap2, and_self, hp, cl_impl_copyCore, hk, cl_impl_wordAt, hD, cl_impl_CoreOk, ho, cl_impl_usesMem, sem_impl_usesMem, memF, cl_impl_ValOk, sem_impl_ValOk, cl_impl_Calc, sem_impl_Calc, cl_impl_Denied, sem_impl_Denied, cl_impl_Negated, sem_impl_Negated, decide_true, decide_false, Bool.not_true, Bool.not_false, Bool.true_and, Bool.false_and, Bool.and_true, Bool.and_false, Bool.true_or, Bool.false_or, Bool.or_false, Bool.or_true, hpn', getRow _ _ hpn, getRow _ _ har, getRow _ _ hbr, har, hbr, har', hbr', hga, hgb, hss, stepG, true_or, or_true, false_or, or_false, or_self, hcm, hcm1, hcm2, hcm3, hcm4]
          · have hcm1 : (c : Int) ≤ (m.length : Int) - 1 := by omega
            have hcm2 : ¬ (m.length : Int) ≤ (c : Int) := by omega
            have hcm3 : ¬ m.length ≤ c := by omega
            have hcm4 : (c : Int) < (m.length : Int) := by omega
            have hgm : m.getD c 0 = m[c] := by simp [hcm]
            simp (maxSteps := 10000000) (disch := first | assumption | omega) only [cCore, F_impl_StepCore, params, EG, EL, ↓reduceIte, Nat.reduceEqDiff, Nat.reduceAdd, Nat.reduceSub, Nat.reduceMul, Nat.reduceLeDiff, Nat.reduceLT, Int.reduceLT, Int.reduceLE, Int.reduceEq, Int.reduceToNat, reduceCtorEq, FB, ED, FT, cx_impl_StepCore, hw, hw2, hcap, hcap2, and_self, hp, cl_impl_copyCore, hk, cl_impl_wordAt, hD, cl_impl_CoreOk, ho, cl_impl_usesMem, sem_impl_usesMem, memF, cl_impl_ValOk, sem_impl_ValOk, cl_impl_Calc, sem_impl_Calc, cl_impl_Denied, sem_impl_Denied, cl_impl_Negated, sem_impl_Negated, decide_true, decide_false, Bool.not_true, Bool.not_false, Bool.true_and, Bool.false_and, Bool.and_true, Bool.and_false, Bool.true_or, Bool.false_or, Bool.or_false, Bool.or_true, hpn', getRow _ _ hpn, getRow _ _ har, getRow _ _ hbr, har, hbr, har', hbr', hga, hgb, hss, stepG, true_or, or_true, false_or, or_false, or_self, hcm, hcm1, hcm2, hcm3, hcm4, getRow _ _ hcm]
        · by_cases hq : (calcF c rs[a] rs[b]).2 = 0
          all_goals simp (maxSteps := 10000000) (disch := first | assumption | omega) only [cCore, F_impl_StepCore, params, EG, EL, ↓reduceIte, Nat.reduceEqDiff, Nat.reduceAdd, Nat.reduceSub, Nat.reduceMul, Nat.reduceLeDiff, Nat.reduceLT, Int.reduceLT, Int.reduceLE, Int.reduceEq, Int.reduceToNat, reduceCtorEq, FB, ED, FT, cx_impl_StepCore, hw, hw2, hcap, hcap2, and_self, hp, cl_impl_copyCore, hk, cl_impl_wordAt, hD, cl_impl_CoreOk, ho, cl_impl_usesMem, sem_impl_usesMem, memF, cl_impl_ValOk, sem_impl_ValOk, cl_impl_Calc, sem_impl_Calc, cl_impl_Denied, sem_impl_Denied, cl_impl_Negated, sem_impl_Negated, decide_true, decide_false, Bool.not_true, Bool.not_false, Bool.true_and, Bool.false_and, Bool.and_true, Bool.and_false, Bool.true_or, Bool.false_or, Bool.or_false, Bool.or_true, hpn', getRow _ _ hpn, getRow _ _ har, getRow _ _ hbr, har, hbr, har', hbr', hga, hgb, hss, stepG, true_or, or_true, false_or, or_false, or_self, hq]
        · simp (maxSteps := 10000000) (disch := first | assumption | omega) only [cCore, F_impl_StepCore, params, EG, EL, ↓reduceIte, Nat.reduceEqDiff, Nat.reduceAdd, Nat.reduceSub, Nat.reduceMul, Nat.reduceLeDiff, Nat.reduceLT, Int.reduceLT, Int.reduceLE, Int.reduceEq, Int.reduceToNat, reduceCtorEq, FB, ED, FT, cx_impl_StepCore, hw, hw2, hcap, hcap2, and_self, hp, cl_impl_copyCore, hk, cl_impl_wordAt, hD, cl_impl_CoreOk, ho, cl_impl_usesMem, sem_impl_usesMem, memF, cl_impl_ValOk, sem_impl_ValOk, cl_impl_Calc, sem_impl_Calc, cl_impl_Denied, sem_impl_Denied, cl_impl_Negated, sem_impl_Negated, decide_true, decide_false, Bool.not_true, Bool.not_false, Bool.true_and, Bool.false_and, Bool.and_true, Bool.and_false, Bool.true_or, Bool.false_or, Bool.or_false, Bool.or_true, hpn', getRow _ _ hpn, getRow _ _ har, getRow _ _ hbr, har, hbr, har', hbr', hga, hgb, hss, stepG, true_or, or_true, false_or, or_false, or_self]
        · by_cases hq : (negF rs[a]).2 = 0
          all_goals simp (maxSteps := 10000000) (disch := first | assumption | omega) only [cCore, F_impl_StepCore, params, EG, EL, ↓reduceIte, Nat.reduceEqDiff, Nat.reduceAdd, Nat.reduceSub, Nat.reduceMul, Nat.reduceLeDiff, Nat.reduceLT, Int.reduceLT, Int.reduceLE, Int.reduceEq, Int.reduceToNat, reduceCtorEq, FB, ED, FT, cx_impl_StepCore, hw, hw2, hcap, hcap2, and_self, hp, cl_impl_copyCore, hk, cl_impl_wordAt, hD, cl_impl_CoreOk, ho, cl_impl_usesMem, sem_impl_usesMem, memF, cl_impl_ValOk, sem_impl_ValOk, cl_impl_Calc, sem_impl_Calc, cl_impl_Denied, sem_impl_Denied, cl_impl_Negated, sem_impl_Negated, decide_true, decide_false, Bool.not_true, Bool.not_false, Bool.true_and, Bool.false_and, Bool.and_true, Bool.and_false, Bool.true_or, Bool.false_or, Bool.or_false, Bool.or_true, hpn', getRow _ _ hpn, getRow _ _ har, getRow _ _ hbr, har, hbr, har', hbr', hga, hgb, hss, stepG, true_or, or_true, false_or, or_false, or_self, hq]
        · by_cases hq : rs[a] = 0
          · have hs0 : rs.set a 0 = rs := by rw [← hq]; exact hss
            simp (maxSteps := 10000000) (disch := first | assumption | omega) only [cCore, F_impl_StepCore, params, EG, EL, ↓reduceIte, Nat.reduceEqDiff, Nat.reduceAdd, Nat.reduceSub, Nat.reduceMul, Nat.reduceLeDiff, Nat.reduceLT, Int.reduceLT, Int.reduceLE, Int.reduceEq, Int.reduceToNat, reduceCtorEq, FB, ED, FT, cx_impl_StepCore, hw, hw2, hcap, hcap2, and_self, hp, cl_impl_copyCore, hk, cl_impl_wordAt, hD, cl_impl_CoreOk, ho, cl_impl_usesMem, sem_impl_usesMem, memF, cl_impl_ValOk, sem_impl_ValOk, cl_impl_Calc, sem_impl_Calc, cl_impl_Denied, sem_impl_Denied, cl_impl_Negated, sem_impl_Negated, decide_true, decide_false, Bool.not_true, Bool.not_false, Bool.true_and, Bool.false_and, Bool.and_true, Bool.and_false, Bool.true_or, Bool.false_or, Bool.or_false, Bool.or_true, hpn', getRow _ _ hpn, getRow _ _ har, getRow _ _ hbr, har, hbr, har', hbr', hga, hgb, hss, stepG, true_or, or_true, false_or, or_false, or_self, hq, hs0]
          · simp (maxSteps := 10000000) (disch := first | assumption | omega) only [cCore, F_impl_StepCore, params, EG, EL, ↓reduceIte, Nat.reduceEqDiff, Nat.reduceAdd, Nat.reduceSub, Nat.reduceMul, Nat.reduceLeDiff, Nat.reduceLT, Int.reduceLT, Int.reduceLE, Int.reduceEq, Int.reduceToNat, reduceCtorEq, FB, ED, FT, cx_impl_StepCore, hw, hw2, hcap, hcap2, and_self, hp, cl_impl_copyCore, hk, cl_impl_wordAt, hD, cl_impl_CoreOk, ho, cl_impl_usesMem, sem_impl_usesMem, memF, cl_impl_ValOk, sem_impl_ValOk, cl_impl_Calc, sem_impl_Calc, cl_impl_Denied, sem_impl_Denied, cl_impl_Negated, sem_impl_Negated, decide_true, decide_false, Bool.not_true, Bool.not_false, Bool.true_and, Bool.false_and, Bool.and_true, Bool.and_false, Bool.true_or, Bool.false_or, Bool.or_false, Bool.or_true, hpn', getRow _ _ hpn, getRow _ _ har, getRow _ _ hbr, har, hbr, har', hbr', hga, hgb, hss, stepG, true_or, or_true, false_or, or_false, or_self, hq]
        · simp (maxSteps := 10000000) (disch := first | assumption | omega) only [cCore, F_impl_StepCore, params, EG, EL, ↓reduceIte, Nat.reduceEqDiff, Nat.reduceAdd, Nat.reduceSub, Nat.reduceMul, Nat.reduceLeDiff, Nat.reduceLT, Int.reduceLT, Int.reduceLE, Int.reduceEq, Int.reduceToNat, reduceCtorEq, FB, ED, FT, cx_impl_StepCore, hw, hw2, hcap, hcap2, and_self, hp, cl_impl_copyCore, hk, cl_impl_wordAt, hD, cl_impl_CoreOk, ho, cl_impl_usesMem, sem_impl_usesMem, memF, cl_impl_ValOk, sem_impl_ValOk, cl_impl_Calc, sem_impl_Calc, cl_impl_Denied, sem_impl_Denied, cl_impl_Negated, sem_impl_Negated, decide_true, decide_false, Bool.not_true, Bool.not_false, Bool.true_and, Bool.false_and, Bool.and_true, Bool.and_false, Bool.true_or, Bool.false_or, Bool.or_false, Bool.or_true, hpn', getRow _ _ hpn, getRow _ _ har, getRow _ _ hbr, har, hbr, har', hbr', hga, hgb, hss, stepG, true_or, or_true, false_or, or_false, or_self]
        · by_cases hcm : c < m.length
          rotate_left
          · have hcm1 : ¬ (c : Int) ≤ (m.length : Int) - 1 := by omega
            have hcm2 : (m.length : Int) ≤ (c : Int) := by omega
            have hcm3 : m.length ≤ c := by omega
            have hcm4 : ¬ (c : Int) < (m.length : Int) := by omega
            simp (maxSteps := 10000000) (disch := first | assumption | omega) only [cCore, F_impl_StepCore, params, EG, EL, ↓reduceIte, Nat.reduceEqDiff, Nat.reduceAdd, Nat.reduceSub, Nat.reduceMul, Nat.reduceLeDiff, Nat.reduceLT, Int.reduceLT, Int.reduceLE, Int.reduceEq, Int.reduceToNat, reduceCtorEq, FB, ED, FT, cx_impl_StepCore, hw, hw2, hcap, hcap2, and_self, hp, cl_impl_copyCore, hk, cl_impl_wordAt, hD, cl_impl_CoreOk, ho, cl_impl_usesMem, sem_impl_usesMem, memF, cl_impl_ValOk, sem_impl_ValOk, cl_impl_Calc, sem_impl_Calc, cl_impl_Denied, sem_impl_Denied, cl_impl_Negated, sem_impl_Negated, decide_true, decide_false, Bool.not_true, Bool.not_false, Bool.true_and, Bool.false_and, Bool.and_true, Bool.and_false, Bool.true_or, Bool.false_or, Bool.or_false, Bool.or_true, hpn', getRow _ _ hpn, getRow _ _ har, getRow _ _ hbr, har, hbr, har', hbr', hga, hgb, hss, stepG, true_or, or_true, false_or, or_false, or_self, hcm, hcm1, hcm2, hcm3, hcm4]
          · have hcm1 : (c : Int) ≤ (m.length : Int) - 1 := by omega
            have hcm2 : ¬ (m.length : Int) ≤ (c : Int) := by omega
            have hcm3 : ¬ m.length ≤ c := by omega
            have hcm4 : (c : Int) < (m.length : Int) := by omega
            have hgm : m.getD c 0 = m[c] := by simp [hcm]
            cases hv : valOk m[c]
            all_goals simp (maxSteps := 10000000) (disch := first | assumption | omega) only [cCore, F_impl_StepCore, params, EG, EL, ↓reduceIte, Nat.reduceEqDiff, Nat.reduceAdd, Nat.reduceSub, Nat.reduceMul, Nat.reduceLeDiff, Nat.reduceLT, Int.reduceLT, Int.reduceLE, Int.reduceEq, Int.reduceToNat, reduceCtorEq, FB, ED, FT, cx_impl_StepCore, hw, hw2, hcap, hcap2, and_self, hp, cl_impl_copyCore, hk, cl_impl_wordAt, hD, cl_impl_CoreOk, ho, cl_impl_usesMem, sem_impl_usesMem, memF, cl_impl_ValOk, sem_impl_ValOk, cl_impl_Calc, sem_impl_Calc, cl_impl_Denied, sem_impl_Denied, cl_impl_Negated, sem_impl_Negated, decide_true, decide_false, Bool.not_true, Bool.not_false, Bool.true_and, Bool.false_and, Bool.and_true, Bool.and_false, Bool.true_or, Bool.false_or, Bool.or_false, Bool.or_true, hpn', getRow _ _ hpn, getRow _ _ har, getRow _ _ hbr, har, hbr, har', hbr', hga, hgb, hgm, hv, hss, stepG, true_or, or_true, false_or, or_false, or_self, hcm, hcm1, hcm2, hcm3, hcm4, getRow _ _ hcm]
        · simp (maxSteps := 10000000) (disch := first | assumption | omega) only [cCore, F_impl_StepCore, params, EG, EL, ↓reduceIte, Nat.reduceEqDiff, Nat.reduceAdd, Nat.reduceSub, Nat.reduceMul, Nat.reduceLeDiff, Nat.reduceLT, Int.reduceLT, Int.reduceLE, Int.reduceEq, Int.reduceToNat, reduceCtorEq, FB, ED, FT, cx_impl_StepCore, hw, hw2, hcap, hcap2, and_self, hp, cl_impl_copyCore, hk, cl_impl_wordAt, hD, cl_impl_CoreOk, ho, cl_impl_usesMem, sem_impl_usesMem, memF, cl_impl_ValOk, sem_impl_ValOk, cl_impl_Calc, sem_impl_Calc, cl_impl_Denied, sem_impl_Denied, cl_impl_Negated, sem_impl_Negated, decide_true, decide_false, Bool.not_true, Bool.not_false, Bool.true_and, Bool.false_and, Bool.and_true, Bool.and_false, Bool.true_or, Bool.false_or, Bool.or_false, Bool.or_true, hpn', getRow _ _ hpn, getRow _ _ har, getRow _ _ hbr, har, hbr, har', hbr', hga, hgb, hss, stepG, true_or, or_true, false_or, or_false, or_self]
  · have e : stepF ⟨rs, pc, pr⟩ t m = (⟨rs, pc, pr⟩, m, 4) := by
      simp only [stepF]
      rw [if_neg (by rintro ⟨_, h, _⟩; exact hp h)]
    have hD := sem_impl_wordAt t pc ht
    simp only [wordR, if_neg hp] at hD
    cases hc : coreOkF ⟨rs, pc, pr⟩ <;> simp only [hc] at ho
    all_goals simp (maxSteps := 10000000) (disch := first | assumption | omega) only [cCore, F_impl_StepCore, params, EG, EL, ↓reduceIte, Nat.reduceEqDiff, Nat.reduceAdd, Nat.reduceSub, Nat.reduceMul, Nat.reduceLeDiff, Nat.reduceLT, Int.reduceLT, Int.reduceLE, Int.reduceEq, Int.reduceToNat, reduceCtorEq, FB, ED, FT, cx_impl_StepCore, hw, hw2, hcap, hcap2, and_self, hp, cl_impl_copyCore, hk, cl_impl_wordAt, hD, cl_impl_CoreOk, ho, cl_impl_usesMem, sem_impl_usesMem, memF, cl_impl_ValOk, sem_impl_ValOk, cl_impl_Calc, sem_impl_Calc, cl_impl_Denied, sem_impl_Denied, cl_impl_Negated, sem_impl_Negated, decide_true, decide_false, Bool.not_true, Bool.not_false, Bool.true_and, Bool.false_and, Bool.and_true, Bool.and_false, Bool.true_or, Bool.false_or, Bool.or_false, Bool.or_true, e]
theorem stepG_len {x : DCore} {m : List Int} {op : Int} {a b c : Nat} : (stepG x m op a b c).1.Regs.length = x.Regs.length ∧ (stepG x m op a b c).2.1.length = m.length := by
  unfold stepG
  dsimp only
  repeat' split
  all_goals first | exact ⟨rfl, rfl⟩ | (simp only [List.length_set]; exact ⟨rfl, rfl⟩) | simp
theorem stepF_regs {x : DCore} {t m : List Int} : (stepF x t m).1.Regs.length = x.Regs.length := by
  unfold stepF; split
  · exact stepG_len.1
  · rfl
theorem stepF_mem {x : DCore} {t m : List Int} : (stepF x t m).2.1.length = m.length := by
  unfold stepF; split
  · exact stepG_len.2
  · rfl
def nV (m : DMonitor) : Nat := m.Vars.length
def nP (q : DProcess) : Nat := q.Vars.length + 2
def pv (p : DProgram) (k : Nat) : Nat := match p.Processes[k]? with | some q => q.Vars.length | none => 0
theorem pv_eq {p : DProgram} {k : Nat} (h : k < p.Processes.length) : pv p k = p.Processes[k].Vars.length := by simp [pv, h]
def procIn (p : DProgram) (k : Int) : Prop := 0 ≤ k ∧ k ≤ (p.Processes.length : Int) - 1
instance (p : DProgram) (k : Int) : Decidable (procIn p k) := inferInstanceAs (Decidable (_ ∧ _))
def varAt (p : DProgram) (k i : Int) : Int := if (0 ≤ k ∧ k ≤ (p.Processes.length : Int) - 1) ∧ (0 ≤ i ∧ i ≤ (pv p k.toNat : Int)) then ((1 + tot nV p.Monitors + tot nP (p.Processes.take k.toNat) : Nat) : Int) + i else -1
theorem tot_drop {α : Type} {f : α → Nat} {xs : List α} {i : Nat} (h : i < xs.length) : tot f (xs.drop i) = f xs[i] + tot f (xs.drop (i + 1)) := by
  rw [List.drop_eq_getElem_cons h]; rfl
theorem totTake_le {α : Type} {f : α → Nat} : ∀ {xs : List α} {n : Nat}, tot f (xs.take n) ≤ tot f xs
  | [], n => by simp
  | x :: xs, 0 => by simp [tot]
  | x :: xs, n + 1 => by have := @totTake_le α f xs n; simp only [List.take_succ_cons, tot]; omega
theorem tot_mono {α : Type} {f g : α → Nat} (h : ∀ x, f x ≤ g x) : ∀ {xs : List α}, tot f xs ≤ tot g xs
  | [] => Nat.le_refl _
  | x :: xs => by have := @tot_mono _ _ _ h xs; have := h x; simp only [tot]; omega
theorem tot_nP : ∀ {xs : List DProcess}, tot nP xs ≤ tot wtProcess xs + 2 * xs.length
  | [] => Nat.le_refl _
  | x :: xs => by have := @tot_nP xs; simp only [tot, nP, wtProcess, List.length_cons]; omega
theorem tot_nV {xs : List DMonitor} : tot nV xs ≤ tot wtMonitor xs := tot_mono fun x => by unfold nV wtMonitor; omega
def atsF (p : DProgram) (k : Int) : List ByteArray → Nat → List Int
  | [], _ => []
  | _ :: r, i => varAt p k i :: atsF p k r (i + 1)
def varsOf (p : DProgram) (k : Nat) : List ByteArray := match p.Processes[k]? with | some q => q.Vars | none => []
theorem varsOf_eq {p : DProgram} {k : Nat} (h : k < p.Processes.length) : varsOf p k = p.Processes[k].Vars := by simp [varsOf, h]
def ownPlaces (p : DProgram) (k : Int) : DPlaces := if 0 ≤ k ∧ k ≤ (p.Processes.length : Int) - 1 then ⟨varsOf p k.toNat, atsF p k (varsOf p k.toNat) 0⟩ else ⟨[], []⟩
theorem atsF_len {p : DProgram} {k : Int} : ∀ {xs : List ByteArray} {i : Nat}, (atsF p k xs i).length = xs.length
  | [], _ => rfl
  | x :: xs, i => by simp only [atsF, List.length_cons, @atsF_len p k xs (i + 1)]
theorem ownPlaces_wt {p : DProgram} {k : Int} : wtPlaces (ownPlaces p k) ≤ 2 * tot wtProcess p.Processes := by
  unfold ownPlaces
  split
  · simp only [wtPlaces, atsF_len]
    unfold varsOf
    cases h : p.Processes[k.toNat]? with
    | none => simp [tot]
    | some q =>
      have := le_tot wtProcess (List.mem_of_getElem? h)
      simp only [wtProcess] at this
      simp only; omega
  · simp [wtPlaces, tot]
def mv (p : DProgram) (k : Nat) : Nat := match p.Monitors[k]? with | some q => q.Vars.length | none => 0
theorem mv_eq {p : DProgram} {k : Nat} (h : k < p.Monitors.length) : mv p k = p.Monitors[k].Vars.length := by simp [mv, h]
def sharedAt (p : DProgram) (k i : Int) : Int := if (0 ≤ k ∧ k ≤ (p.Monitors.length : Int) - 1) ∧ (0 ≤ i ∧ i ≤ (mv p k.toNat : Int) - 1) then ((1 + tot nV (p.Monitors.take k.toNat) : Nat) : Int) + i else -1
def argAt (p : DProgram) (k : Int) : Int := if 0 ≤ k ∧ k ≤ (p.Processes.length : Int) - 1 then varAt p k (pv p k.toNat) else -1
def resultAt (p : DProgram) (k : Int) : Int := if argAt p k < 0 then -1 else IntKind.wrap .i64 (argAt p k + 1)
theorem nV_lt {p : DProgram} {k : Nat} (h : k < p.Monitors.length) : p.Monitors[k].Vars.length + tot nV (p.Monitors.take k) ≤ tot nV p.Monitors := by
  have := @tot_take _ nV p.Monitors k h
  have : nV p.Monitors[k] = p.Monitors[k].Vars.length := rfl
  omega
def satsF (p : DProgram) (m : Int) : List ByteArray → Nat → List Int
  | [], _ => []
  | _ :: r, i => sharedAt p m i :: satsF p m r (i + 1)
def mvars (p : DProgram) (m : Nat) : List ByteArray := match p.Monitors[m]? with | some q => q.Vars | none => []
def ents (p : DProgram) (m : Nat) : List DEntry := match p.Monitors[m]? with | some q => q.Entries | none => []
def paramOf (p : DProgram) (m n : Nat) : ByteArray := match (ents p m)[n]? with | some q => q.Param | none => ⟨#[]⟩
theorem mvars_eq {p : DProgram} {m : Nat} (h : m < p.Monitors.length) : mvars p m = p.Monitors[m].Vars := by simp [mvars, h]
theorem ents_eq {p : DProgram} {m : Nat} (h : m < p.Monitors.length) : ents p m = p.Monitors[m].Entries := by simp [ents, h]
theorem param_eq {p : DProgram} {m n : Nat} (h : m < p.Monitors.length) (h2 : n < p.Monitors[m].Entries.length) : paramOf p m n = p.Monitors[m].Entries[n].Param := by
  unfold paramOf; rw [ents_eq h]; simp [h2]
def resB : ByteArray := ⟨#[114, 101, 115, 117, 108, 116]⟩
def entryPlaces (p : DProgram) (k m n : Int) : DPlaces :=
  if (0 ≤ k ∧ k ≤ (p.Processes.length : Int) - 1) ∧ (0 ≤ m ∧ m ≤ (p.Monitors.length : Int) - 1) ∧ (0 ≤ n ∧ n ≤ ((ents p m.toNat).length : Int) - 1) then ⟨[paramOf p m.toNat n.toNat, resB] ++ mvars p m.toNat, [argAt p k, resultAt p k] ++ satsF p m (mvars p m.toNat) 0⟩ else ⟨[], []⟩
theorem satsF_len {p : DProgram} {k : Int} : ∀ {xs : List ByteArray} {i : Nat}, (satsF p k xs i).length = xs.length
  | [], _ => rfl
  | x :: xs, i => by simp only [satsF, List.length_cons, @satsF_len p k xs (i + 1)]
theorem entryPlaces_wt {p : DProgram} {k m n : Int} : wtPlaces (entryPlaces p k m n) ≤ 3 * tot wtMonitor p.Monitors + 100 := by
  unfold entryPlaces
  split
  · simp only [wtPlaces, List.length_append, satsF_len, List.length_cons, List.length_nil, List.cons_append, List.nil_append, tot]
    have hr : wtS resB = 6 := rfl
    unfold paramOf mvars ents
    cases h : p.Monitors[m.toNat]? with
    | none => simp [tot, wtS] at *; omega
    | some q =>
      have h1 := le_tot wtMonitor (List.mem_of_getElem? h)
      simp only [wtMonitor] at h1
      simp only
      cases h2 : q.Entries[n.toNat]? with
      | none =>
        have : wtS (⟨#[]⟩ : ByteArray) = 0 := rfl
        simp only; omega
      | some e =>
        have h3 := le_tot wtEntry (List.mem_of_getElem? h2)
        simp only [wtEntry] at h3
        have : wtS e.Param = e.Param.size := rfl
        simp only; omega
  · simp [wtPlaces, tot]
theorem sem_laws_big (bs : List UInt8) : S_laws_big.sem [.tree 1 (bs.map cY)] = some (.bool (decide (1048576 < (bs.length : Int))), []) := by
  rw [sg_laws_big, sem_go]
  simp (maxSteps := 10000000) (disch := first | assumption | omega) only [F_laws_big, params, EG, EL, ↓reduceIte, Nat.reduceEqDiff, Nat.reduceAdd, Nat.reduceSub, Nat.reduceMul, Nat.reduceLeDiff, Nat.reduceLT, Int.reduceLT, Int.reduceLE, Int.reduceEq, Int.reduceToNat, reduceCtorEq, FB, ED, cx_laws_big, gt_iff_lt]
/-! what is drawn: numbers, words, cores -/
def cC (c : Cur) : Option Blk := some ⟨true, 0, 3, [[.tree 1 (c.b.map cY), .int .i64 (c.i : Int), .int .i64 c.h]]⟩
def pickF (l : List Int) (c : Cur) : Int × Cur := (l.getD (belowF l.length c).1.toNat 0, (belowF l.length c).2)
theorem pickF_b {l : List Int} {c : Cur} : (pickF l c).2.b = c.b := belowF_b
theorem pickF_mem {l : List Int} {c : Cur} (h : 0 < l.length) : (pickF l c).1 ∈ l := by
  have hb := @belowF_bd (l.length : Int) c (by omega)
  unfold pickF
  have hi : (belowF l.length c).1.toNat < l.length := by omega
  rw [List.getD_eq_getElem?_getD, List.getElem?_eq_getElem hi]
  exact List.getElem_mem hi
def placeF (n : Int) (c : Cur) : Int × Cur := if (belowF 15 c).1 = 0 then pickF [-1, n, IntKind.wrap .i64 (n + 1), 9223372036854775807, -9223372036854775808] (belowF 15 c).2 else belowF n (belowF 15 c).2
theorem placeF_b {n : Int} {c : Cur} : (placeF n c).2.b = c.b := by
  unfold placeF; split
  · rw [pickF_b, belowF_b]
  · rw [belowF_b, belowF_b]
theorem fsem_spec_l01Once (c : Cur) (n : Int) (hb : c.b.length ≤ 1048576) : H_spec_l01Once [.ptr ⟨0, none, 0⟩ 3 0 0, .int .i64 n] [some ⟨true, 0, 3, [[.tree 1 (c.b.map cY), .int .i64 (c.i : Int), .int .i64 c.h]]⟩] = some (.bool (decide ((belowF n c).1 = 0)), [some ⟨true, 0, 3, [[.tree 1 ((belowF n c).2.b.map cY), .int .i64 ((belowF n c).2.i : Int), .int .i64 (belowF n c).2.h]]⟩]) := by
  rw [sh_spec_l01Once, run_goF]
  simp (maxSteps := 10000000) (disch := first | assumption | omega) only [F_spec_l01Once, params, EG, EL, ↓reduceIte, Nat.reduceEqDiff, Nat.reduceAdd, Nat.reduceSub, Nat.reduceMul, Nat.reduceLeDiff, Nat.reduceLT, Int.reduceLT, Int.reduceLE, Int.reduceEq, Int.reduceToNat, reduceCtorEq, FB, ED, EF, FT, cx_spec_l01Once, cl_spec_l01Below, fsem_spec_l01Below]
theorem fsem_spec_l01PickInt (l : List Int) (h0 : 0 < l.length) (hl : l.length ≤ 1000) (c : Cur) (hb : c.b.length ≤ 1048576) : H_spec_l01PickInt [.ptr ⟨0, none, 0⟩ 3 0 0, .sl ⟨1, none, 0⟩ 1 0 l.length] [some ⟨true, 0, 3, [[.tree 1 (c.b.map cY), .int .i64 (c.i : Int), .int .i64 c.h]]⟩, some ⟨false, 0, 1, l.map cI⟩] = some (.int .i64 (pickF l c).1, [some ⟨true, 0, 3, [[.tree 1 ((pickF l c).2.b.map cY), .int .i64 ((pickF l c).2.i : Int), .int .i64 (pickF l c).2.h]]⟩, some ⟨false, 0, 1, l.map cI⟩]) := by
  have hd := @belowF_bd (l.length : Int) c (by omega)
  have hi : (belowF l.length c).1.toNat < l.length := by omega
  have hg := getRow cI l hi
  have hp : pickF l c = (l[(belowF l.length c).1.toNat], (belowF l.length c).2) := by
    unfold pickF
    rw [List.getD_eq_getElem?_getD, List.getElem?_eq_getElem hi]; rfl
  rw [sh_spec_l01PickInt, run_goF, hp]
  simp (maxSteps := 10000000) (disch := first | assumption | omega) only [F_spec_l01PickInt, params, EG, EL, ↓reduceIte, Nat.reduceEqDiff, Nat.reduceAdd, Nat.reduceSub, Nat.reduceMul, Nat.reduceLeDiff, Nat.reduceLT, Int.reduceLT, Int.reduceLE, Int.reduceEq, Int.reduceToNat, reduceCtorEq, FB, ED, EF, FT, cx_spec_l01PickInt, cl_spec_l01Below, fsem_spec_l01Below, hd, hi, hg]
def l14F (c : Cur) : DIns × Cur :=
  if (belowF 10 c).1 = 0 then (⟨1, (belowF 8 (belowF 10 c).2).1, 0, (pickF [0, 1, 7, 1000000] (belowF 8 (belowF 10 c).2).2).1⟩, (pickF [0, 1, 7, 1000000] (belowF 8 (belowF 10 c).2).2).2)
  else if (belowF 10 c).1 = 3 then (⟨4, (belowF 8 (belowF 10 c).2).1, (belowF 8 (belowF 8 (belowF 10 c).2).2).1, 1 + (belowF 9 (belowF 8 (belowF 8 (belowF 10 c).2).2).2).1⟩, (belowF 9 (belowF 8 (belowF 8 (belowF 10 c).2).2).2).2)
  else if (belowF 10 c).1 = 4 ∨ (belowF 10 c).1 = 5 then (⟨1 + (belowF 10 c).1, (belowF 8 (belowF 10 c).2).1, 0, 0⟩, (belowF 8 (belowF 10 c).2).2)
  else if (belowF 10 c).1 = 7 then (⟨8, 0, 0, (belowF 20 (belowF 8 (belowF 10 c).2).2).1⟩, (belowF 20 (belowF 8 (belowF 10 c).2).2).2)
  else if (belowF 10 c).1 = 9 then (⟨10, 1 + (belowF 7 (belowF 8 (belowF 10 c).2).2).1, 0, (belowF 5 (belowF 7 (belowF 8 (belowF 10 c).2).2).2).1⟩, (belowF 5 (belowF 7 (belowF 8 (belowF 10 c).2).2).2).2)
  else (⟨1 + (belowF 10 c).1, (belowF 8 (belowF 10 c).2).1, 0, (belowF 30 (belowF 8 (belowF 10 c).2).2).1⟩, (belowF 30 (belowF 8 (belowF 10 c).2).2).2)
theorem l14F_b {c : Cur} : (l14F c).2.b = c.b := by
  unfold l14F
  (repeat' split) <;> simp only [belowF_b, pickF_b]
theorem l14F_ok {c : Cur} : insOk (l14F c).1.Op (l14F c).1.A (l14F c).1.B (l14F c).1.C = true := by
  have d1 := @belowF_bd 10 c (by decide)
  have d2 := @belowF_bd 8 (belowF 10 c).2 (by decide)
  unfold l14F
  split
  · have := @pickF_mem [0, 1, 7, 1000000] (belowF 8 (belowF 10 c).2).2 (by simp)
    simp only [List.mem_cons, List.mem_nil_iff, or_false] at this
    unfold insOk; apply decide_eq_true; dsimp only; omega
  · split
    · have d3 := @belowF_bd 8 (belowF 8 (belowF 10 c).2).2 (by decide)
      have d4 := @belowF_bd 9 (belowF 8 (belowF 8 (belowF 10 c).2).2).2 (by decide)
      unfold insOk; apply decide_eq_true; dsimp only; omega
    · split
      · unfold insOk; apply decide_eq_true; dsimp only; omega
      · split
        · have d3 := @belowF_bd 20 (belowF 8 (belowF 10 c).2).2 (by decide)
          unfold insOk; apply decide_eq_true; dsimp only; omega
        · split
          · have d3 := @belowF_bd 7 (belowF 8 (belowF 10 c).2).2 (by decide)
            have d4 := @belowF_bd 5 (belowF 7 (belowF 8 (belowF 10 c).2).2).2 (by decide)
            unfold insOk; apply decide_eq_true; dsimp only; omega
          · have d3 := @belowF_bd 30 (belowF 8 (belowF 10 c).2).2 (by decide)
            unfold insOk; apply decide_eq_true; dsimp only; omega
set_option maxHeartbeats 2000000 in
theorem fsem_spec_l14Ins (c : Cur) (hb : c.b.length ≤ 1048576) : H_spec_l14Ins [.ptr ⟨0, none, 0⟩ 3 0 0] [some ⟨true, 0, 3, [[.tree 1 (c.b.map cY), .int .i64 (c.i : Int), .int .i64 c.h]]⟩] = some (.agg [.int .i64 (l14F c).1.Op, .int .i64 (l14F c).1.A, .int .i64 (l14F c).1.B, .int .i64 (l14F c).1.C], [some ⟨true, 0, 3, [[.tree 1 ((l14F c).2.b.map cY), .int .i64 ((l14F c).2.i : Int), .int .i64 (l14F c).2.h]]⟩]) := by
  have b1 : (belowF 10 c).2.b.length ≤ 1048576 := by rw [belowF_b]; exact hb
  have b2 : (belowF 8 (belowF 10 c).2).2.b.length ≤ 1048576 := by rw [belowF_b]; exact b1
  have b3 : (belowF 8 (belowF 8 (belowF 10 c).2).2).2.b.length ≤ 1048576 := by rw [belowF_b]; exact b2
  have b4 : (belowF 7 (belowF 8 (belowF 10 c).2).2).2.b.length ≤ 1048576 := by rw [belowF_b]; exact b2
  have p1 := fsem_spec_l01PickInt [0, 1, 7, 1000000] (by simp) (by simp)
  simp only [EG, EL, ↓reduceIte, Nat.reduceEqDiff, Nat.reduceAdd, Nat.reduceSub, Nat.reduceMul, Nat.reduceLeDiff, Nat.reduceLT, Int.reduceLT, Int.reduceLE, Int.reduceEq, Int.reduceToNat, reduceCtorEq, FB] at p1
  have d1 := @belowF_bd 10 c (by decide)
  have d3 := @belowF_bd 9 (belowF 8 (belowF 8 (belowF 10 c).2).2).2 (by decide)
  have d4 := @belowF_bd 7 (belowF 8 (belowF 10 c).2).2 (by decide)
  have hk : (belowF 10 c).1 = 0 ∨ (belowF 10 c).1 = 1 ∨ (belowF 10 c).1 = 2 ∨ (belowF 10 c).1 = 3 ∨ (belowF 10 c).1 = 4 ∨ (belowF 10 c).1 = 5 ∨ (belowF 10 c).1 = 6 ∨ (belowF 10 c).1 = 7 ∨ (belowF 10 c).1 = 8 ∨ (belowF 10 c).1 = 9 := by omega
  rw [sh_spec_l14Ins, run_goF]
  rcases hk with hk | hk | hk | hk | hk | hk | hk | hk | hk | hk
  all_goals simp (maxSteps := 10000000) (disch := first | assumption | omega) only [F_spec_l14Ins, params, EG, EL, ↓reduceIte, Nat.reduceEqDiff, Nat.reduceAdd, Nat.reduceSub, Nat.reduceMul, Nat.reduceLeDiff, Nat.reduceLT, Int.reduceLT, Int.reduceLE, Int.reduceEq, Int.reduceToNat, reduceCtorEq, FB, ED, EF, FT, cx_spec_l14Ins, cl_spec_l01Below, fsem_spec_l01Below, cl_spec_l01PickInt, p1, l14F, hk, Int.reduceAdd, wrapI, decide_true, decide_false, true_or, or_true, or_false, false_or]
theorem sh28 {x : Int} : bin .shl (.int .i64 x) (.int .u64 28) = some (.int .i64 (IntKind.wrap .i64 (x * 268435456))) := rfl
theorem sh25 {x : Int} : bin .shl (.int .i64 x) (.int .u64 25) = some (.int .i64 (IntKind.wrap .i64 (x * 33554432))) := rfl
theorem sh22 {x : Int} : bin .shl (.int .i64 x) (.int .u64 22) = some (.int .i64 (IntKind.wrap .i64 (x * 4194304))) := rfl
def encN (op a b c : Int) : Int := op * 268435456 + a * 33554432 + b * 4194304 + c
def encF (op a b c : Int) : Int := if insOk op a b c = true then encN op a b c else 0
theorem insOk_bd {op a b c : Int} (h : insOk op a b c = true) : (1 ≤ op ∧ op ≤ 10) ∧ (0 ≤ a ∧ a ≤ 7) ∧ (0 ≤ b ∧ b ≤ 7) ∧ (0 ≤ c ∧ c ≤ 4194303) := by
  unfold insOk at h
  have := of_decide_eq_true h
  exact ⟨this.1, this.2.1, this.2.2.1, this.2.2.2.1⟩
theorem sem_spec_Encode (op a b c : Int) : S_spec_Encode.sem [.agg [.int .i64 op, .int .i64 a, .int .i64 b, .int .i64 c]] = some (.tup [.int .i64 (encF op a b c), .bool (insOk op a b c)], []) := by
  rw [sg_spec_Encode, sem_go]
  unfold encF
  cases h : insOk op a b c
  · simp (maxSteps := 10000000) (disch := first | assumption | omega) only [F_spec_Encode, params, EG, EL, ↓reduceIte, Nat.reduceEqDiff, Nat.reduceAdd, Nat.reduceSub, Nat.reduceMul, Nat.reduceLeDiff, Nat.reduceLT, Int.reduceLT, Int.reduceLE, Int.reduceEq, Int.reduceToNat, reduceCtorEq, FB, ED, FT, cx_spec_Encode, cl_spec_InsOk, sem_spec_InsOk, h]
  · have hb := insOk_bd h
    simp (maxSteps := 10000000) (disch := first | assumption | omega) only [F_spec_Encode, params, EG, EL, ↓reduceIte, Nat.reduceEqDiff, Nat.reduceAdd, Nat.reduceSub, Nat.reduceMul, Nat.reduceLeDiff, Nat.reduceLT, Int.reduceLT, Int.reduceLE, Int.reduceEq, Int.reduceToNat, reduceCtorEq, FB, ED, FT, cx_spec_Encode, cl_spec_InsOk, sem_spec_InsOk, h, sh28, sh25, sh22, wrapI, encN]
def textRun : List Unit → Nat → Cur → List Int → List Int × Cur
  | [], _, c, out => (out, (belowF 6 c).2)
  | _ :: n, i, c, out => if (i : Int) < 1 + (belowF 6 c).1 then textRun n (i + 1) (l14F (belowF 6 c).2).2 (out ++ [encF (l14F (belowF 6 c).2).1.Op (l14F (belowF 6 c).2).1.A (l14F (belowF 6 c).2).1.B (l14F (belowF 6 c).2).1.C]) else (out, (belowF 6 c).2)
theorem textRun_b : ∀ {n : List Unit} {i : Nat} {c : Cur} {out : List Int}, (textRun n i c out).2.b = c.b
  | [], _, _, _ => by simp only [textRun, belowF_b]
  | _ :: n, i, c, out => by
    simp only [textRun]
    split
    · rw [textRun_b, l14F_b, belowF_b]
    · exact belowF_b
theorem textRun_len : ∀ {n : List Unit} {i : Nat} {c : Cur} {out : List Int}, (textRun n i c out).1.length ≤ out.length + n.length
  | [], _, _, _ => Nat.le_refl _
  | _ :: n, i, c, out => by
    simp only [textRun]
    split
    · have := @textRun_len n (i + 1) (l14F (belowF 6 c).2).2 (out ++ [encF (l14F (belowF 6 c).2).1.Op (l14F (belowF 6 c).2).1.A (l14F (belowF 6 c).2).1.B (l14F (belowF 6 c).2).1.C])
      simp only [List.length_append, List.length_cons, List.length_nil] at this ⊢
      omega
    · simp only [List.length_cons]; omega
def l15T (c : Cur) : List Int × Cur := textRun (List.replicate 6 ()) 0 c []
theorem l15T_b {c : Cur} : (l15T c).2.b = c.b := textRun_b
theorem l15T_len {c : Cur} : (l15T c).1.length ≤ 6 := by
  have := @textRun_len (List.replicate 6 ()) 0 c []
  rw [List.length_replicate, List.length_nil] at this
  unfold l15T
  omega
def drawText (c : Cur) : List Int × Cur := if (belowF 8 (l15T c).2).1 = 0 then ((l15T c).1 ++ [(pickF [0, -1, 77] (belowF 8 (l15T c).2).2).1], (pickF [0, -1, 77] (belowF 8 (l15T c).2).2).2) else ((l15T c).1, (belowF 8 (l15T c).2).2)
theorem drawText_b {c : Cur} : (drawText c).2.b = c.b := by
  unfold drawText
  split
  · rw [pickF_b, belowF_b, l15T_b]
  · rw [belowF_b, l15T_b]
theorem drawText_len {c : Cur} : (drawText c).1.length ≤ 7 := by
  have := @l15T_len c
  unfold drawText
  split
  · simp only [List.length_append, List.length_singleton]; omega
  · simp only; omega
theorem loop_l15Text (xs : List Unit) (hxs : xs.length = 6) (c0 : Cur) (hb : c0.b.length ≤ 1048576) : loopV X_spec_l15Text 1 [0, 3, 4] [(1, [0, 3])] B0_spec_l15Text ⟨[(0, .ptr ⟨0, none, 0⟩ 3 0 0), (3, .sl ⟨1, none, 0⟩ 1 0 0), (4, .int .i64 0)], [some ⟨true, 0, 3, [[.tree 1 (c0.b.map cY), .int .i64 (c0.i : Int), .int .i64 c0.h]]⟩, some ⟨false, 0, 1, []⟩]⟩
    = some (.exit 0, ⟨[(0, .ptr ⟨0, none, 0⟩ 3 0 0), (3, .sl ⟨1, none, 0⟩ 1 0 (textRun xs 0 c0 []).1.length)], [some ⟨true, 0, 3, [[.tree 1 ((textRun xs 0 c0 []).2.b.map cY), .int .i64 ((textRun xs 0 c0 []).2.i : Int), .int .i64 (textRun xs 0 c0 []).2.h]]⟩, some ⟨false, 0, 1, (textRun xs 0 c0 []).1.map cI⟩]⟩) := by
  refine loop_list xs (fun i (a : Nat × Cur × List Int) => a.1 = i ∧ a.2.1.b.length ≤ 1048576 ∧ a.2.2.length ≤ i) (fun i a => ⟨[(0, .ptr ⟨0, none, 0⟩ 3 0 0), (3, .sl ⟨1, none, 0⟩ 1 0 a.2.2.length), (4, .int .i64 ((i : Nat) : Int))], [some ⟨true, 0, 3, [[.tree 1 (a.2.1.b.map cY), .int .i64 (a.2.1.i : Int), .int .i64 a.2.1.h]]⟩, some ⟨false, 0, 1, a.2.2.map cI⟩]⟩)
    (fun rest a => some (.exit 0, ⟨[(0, .ptr ⟨0, none, 0⟩ 3 0 0), (3, .sl ⟨1, none, 0⟩ 1 0 (textRun rest a.1 a.2.1 a.2.2).1.length)], [some ⟨true, 0, 3, [[.tree 1 ((textRun rest a.1 a.2.1 a.2.2).2.b.map cY), .int .i64 ((textRun rest a.1 a.2.1 a.2.2).2.i : Int), .int .i64 (textRun rest a.1 a.2.1 a.2.2).2.h]]⟩, some ⟨false, 0, 1, (textRun rest a.1 a.2.1 a.2.2).1.map cI⟩]⟩)) ?_ ?_ (0, c0, []) ⟨rfl, hb, Nat.le_refl _⟩
  · rintro ⟨i, c, out⟩ ⟨rfl, hb, ho⟩
    simp only at hb ho
    have hd := @belowF_bd 6 c (by decide)
    have hlt : ¬ ((xs.length : Nat) : Int) < 1 + (belowF 6 c).1 := by omega
    rw [loopV_by B0_spec_l15Text.eq_1]
    simp (maxSteps := 10000000) (disch := first | assumption | omega) only [EG, EL, ↓reduceIte, Nat.reduceEqDiff, Nat.reduceAdd, Nat.reduceSub, Nat.reduceMul, Nat.reduceLeDiff, Nat.reduceLT, Int.reduceLT, Int.reduceLE, Int.reduceEq, Int.reduceToNat, reduceCtorEq, FB, ED, EF, FT, cx_spec_l15Text, cl_spec_l01Below, fsem_spec_l01Below, wrapI, hlt, textRun]
  · rintro i hi0 y rest ⟨i, c, out⟩ rfl rfl ⟨rfl, hb, ho⟩ ih
    simp only at hb ho ih
    have hd := @belowF_bd 6 c (by decide)
    have b1 : (belowF 6 c).2.b.length ≤ 1048576 := by rw [belowF_b]; exact hb
    have hc : (out.length + 1) * 8 ≤ 70368744177664 := by omega
    have hw1 : IntKind.wrap .i64 (1 + (belowF 6 c).1) = 1 + (belowF 6 c).1 := wrapI (by omega) (by omega)
    rw [loopV_by B0_spec_l15Text.eq_1]
    by_cases hlt : (i : Int) < 1 + (belowF 6 c).1
    · have i1 := ih (i + 1, (l14F (belowF 6 c).2).2, out ++ [encF (l14F (belowF 6 c).2).1.Op (l14F (belowF 6 c).2).1.A (l14F (belowF 6 c).2).1.B (l14F (belowF 6 c).2).1.C]) ⟨rfl, by rw [l14F_b]; exact b1, by simp only [List.length_append, List.length_singleton]; omega⟩
      simp only [EG, EL, ↓reduceIte, Nat.reduceEqDiff, Nat.reduceAdd, Nat.reduceSub, Nat.reduceMul, Nat.reduceLeDiff, Nat.reduceLT, Int.reduceLT, Int.reduceLE, Int.reduceEq, Int.reduceToNat, reduceCtorEq, FB] at i1
      simp (maxSteps := 10000000) (disch := first | assumption | omega) only [EG, EL, ↓reduceIte, Nat.reduceEqDiff, Nat.reduceAdd, Nat.reduceSub, Nat.reduceMul, Nat.reduceLeDiff, Nat.reduceLT, Int.reduceLT, Int.reduceLE, Int.reduceEq, Int.reduceToNat, reduceCtorEq, FB, ED, EF, FT, cx_spec_l15Text, cl_spec_l01Below, fsem_spec_l01Below, cl_spec_l14Ins, fsem_spec_l14Ins, cl_spec_Encode, sem_spec_Encode, wrap_succ, hw1, hlt, hc, map_cI_snoc, textRun, i1]
    · simp (maxSteps := 10000000) (disch := first | assumption | omega) only [EG, EL, ↓reduceIte, Nat.reduceEqDiff, Nat.reduceAdd, Nat.reduceSub, Nat.reduceMul, Nat.reduceLeDiff, Nat.reduceLT, Int.reduceLT, Int.reduceLE, Int.reduceEq, Int.reduceToNat, reduceCtorEq, FB, ED, EF, FT, cx_spec_l15Text, cl_spec_l01Below, fsem_spec_l01Below, wrapI, hlt, textRun]
theorem fsem_spec_l15Text (c : Cur) (hb : c.b.length ≤ 1048576) : H_spec_l15Text [.ptr ⟨0, none, 0⟩ 3 0 0] [some ⟨true, 0, 3, [[.tree 1 (c.b.map cY), .int .i64 (c.i : Int), .int .i64 c.h]]⟩] = some (.sl ⟨1, none, 0⟩ 1 0 (drawText c).1.length, [some ⟨true, 0, 3, [[.tree 1 ((drawText c).2.b.map cY), .int .i64 ((drawText c).2.i : Int), .int .i64 (drawText c).2.h]]⟩, some ⟨false, 0, 1, (drawText c).1.map cI⟩]) := by
  have l := loop_l15Text (List.replicate 6 ()) (by simp) c hb
  have hd : textRun (List.replicate 6 ()) 0 c [] = l15T c := rfl
  rw [hd] at l
  have hl := @l15T_len c
  have b1 : (l15T c).2.b.length ≤ 1048576 := by rw [l15T_b]; exact hb
  have b2 : (belowF 8 (l15T c).2).2.b.length ≤ 1048576 := by rw [belowF_b]; exact b1
  have hc : ((l15T c).1.length + 1) * 8 ≤ 70368744177664 := by omega
  have p1 := fsem_spec_l01PickInt [0, -1, 77] (by simp) (by simp)
  simp only [EG, EL, ↓reduceIte, Nat.reduceEqDiff, Nat.reduceAdd, Nat.reduceSub, Nat.reduceMul, Nat.reduceLeDiff, Nat.reduceLT, Int.reduceLT, Int.reduceLE, Int.reduceEq, Int.reduceToNat, reduceCtorEq, FB] at p1
  rw [sh_spec_l15Text, run_goF]
  unfold drawText
  by_cases h : (belowF 8 (l15T c).2).1 = 0
  all_goals simp (maxSteps := 10000000) (disch := first | assumption | omega) only [F_spec_l15Text, params, EG, EL, ↓reduceIte, Nat.reduceEqDiff, Nat.reduceAdd, Nat.reduceSub, Nat.reduceMul, Nat.reduceLeDiff, Nat.reduceLT, Int.reduceLT, Int.reduceLE, Int.reduceEq, Int.reduceToNat, reduceCtorEq, FB, ED, EF, FT, cx_spec_l15Text, l, cl_spec_l01Once, fsem_spec_l01Once, cl_spec_l01PickInt, p1, h, hc, map_cI_snoc, decide_true, decide_false]
def regRun : List Unit → Nat → Cur → List Int → List Int × Cur
  | [], _, c, out => (out, c)
  | _ :: n, i, c, out => regRun n (i + 1) (pickF [0, 1, 2, -1, 5, 999999] c).2 (out.set i (pickF [0, 1, 2, -1, 5, 999999] c).1)
theorem regRun_b : ∀ {n : List Unit} {i : Nat} {c : Cur} {out : List Int}, (regRun n i c out).2.b = c.b
  | [], _, _, _ => rfl
  | _ :: n, i, c, out => by simp only [regRun]; rw [regRun_b, pickF_b]
theorem regRun_len : ∀ {n : List Unit} {i : Nat} {c : Cur} {out : List Int}, (regRun n i c out).1.length = out.length
  | [], _, _, _ => rfl
  | _ :: n, i, c, out => by simp only [regRun]; rw [regRun_len, List.length_set]
def l15R (c : Cur) : List Int × Cur := regRun (List.replicate 8 ()) 0 c coreNew.Regs
theorem l15R_b {c : Cur} : (l15R c).2.b = c.b := regRun_b
theorem l15R_len {c : Cur} : (l15R c).1.length = 8 := by unfold l15R; rw [regRun_len]; rfl
/-- The registers, how many are left out, the place, the process, the cursor. -/
def l15A (c : Cur) : List Int × Nat × Int × Int × Cur :=
  let c1 := (l15R c).2
  let c2 := (belowF 6 c1).2
  let c3 := (belowF 5 c2).2
  let c4 := (belowF 12 c3).2
  if (belowF 12 c3).1 = 0 then ((l15R c).1, 1, (belowF 6 c1).1, (belowF 5 c2).1 - 1, c4)
  else if (belowF 12 c3).1 = 1 then ((l15R c).1.set 0 1000001, 0, (belowF 6 c1).1, (belowF 5 c2).1 - 1, c4)
  else if (belowF 12 c3).1 = 2 then ((l15R c).1, 0, (pickF [-1, 900, 9223372036854775807] c4).1, (belowF 5 c2).1 - 1, (pickF [-1, 900, 9223372036854775807] c4).2)
  else ((l15R c).1, 0, (belowF 6 c1).1, (belowF 5 c2).1 - 1, c4)
theorem l15A_b {c : Cur} : (l15A c).2.2.2.2.b = c.b := by
  unfold l15A
  simp only
  (repeat' split) <;> simp only [belowF_b, pickF_b, l15R_b]
theorem l15A_len {c : Cur} : (l15A c).1.length = 8 := by
  unfold l15A
  simp only
  (repeat' split) <;> simp only [List.length_set, l15R_len]
theorem l15A_off {c : Cur} : (l15A c).2.1 ≤ 1 := by
  unfold l15A
  simp only
  (repeat' split) <;> simp
theorem loop_l15Any (xs : List Unit) (hxs : xs.length = 8) (c0 : Cur) (hb : c0.b.length ≤ 1048576) (r0 : List Int) (hr : r0.length = 8) : loopV X_spec_l15Any 1 [0, 2, 3, 4] [(1, [0, 2, 3])] B0_spec_l15Any ⟨[(0, .ptr ⟨0, none, 0⟩ 3 0 0), (2, .ptr ⟨1, none, 0⟩ 3 0 0), (3, .ptr ⟨3, none, 0⟩ 3 0 0), (4, .int .i64 0)], [some ⟨true, 0, 3, [[.tree 1 (c0.b.map cY), .int .i64 (c0.i : Int), .int .i64 c0.h]]⟩, some ⟨true, 0, 3, [[.sl ⟨2, none, 0⟩ 1 0 0, .int .i64 0, .int .i64 0]]⟩, some ⟨false, 0, 1, []⟩, some ⟨true, 0, 3, [[.sl ⟨4, none, 0⟩ 1 0 r0.length, .int .i64 0, .int .i64 (-1)]]⟩, some ⟨false, 0, 1, r0.map cI⟩]⟩
    = some (.exit 0, ⟨[(0, .ptr ⟨0, none, 0⟩ 3 0 0), (2, .ptr ⟨1, none, 0⟩ 3 0 0), (3, .ptr ⟨3, none, 0⟩ 3 0 0)], [some ⟨true, 0, 3, [[.tree 1 ((regRun xs 0 c0 r0).2.b.map cY), .int .i64 ((regRun xs 0 c0 r0).2.i : Int), .int .i64 (regRun xs 0 c0 r0).2.h]]⟩, some ⟨true, 0, 3, [[.sl ⟨2, none, 0⟩ 1 0 0, .int .i64 0, .int .i64 0]]⟩, some ⟨false, 0, 1, []⟩, some ⟨true, 0, 3, [[.sl ⟨4, none, 0⟩ 1 0 (regRun xs 0 c0 r0).1.length, .int .i64 0, .int .i64 (-1)]]⟩, some ⟨false, 0, 1, (regRun xs 0 c0 r0).1.map cI⟩]⟩) := by
  refine loop_list xs (fun i (a : Nat × Cur × List Int) => a.1 = i ∧ a.2.1.b.length ≤ 1048576 ∧ a.2.2.length = 8) (fun i a => ⟨[(0, .ptr ⟨0, none, 0⟩ 3 0 0), (2, .ptr ⟨1, none, 0⟩ 3 0 0), (3, .ptr ⟨3, none, 0⟩ 3 0 0), (4, .int .i64 ((i : Nat) : Int))], [some ⟨true, 0, 3, [[.tree 1 (a.2.1.b.map cY), .int .i64 (a.2.1.i : Int), .int .i64 a.2.1.h]]⟩, some ⟨true, 0, 3, [[.sl ⟨2, none, 0⟩ 1 0 0, .int .i64 0, .int .i64 0]]⟩, some ⟨false, 0, 1, []⟩, some ⟨true, 0, 3, [[.sl ⟨4, none, 0⟩ 1 0 a.2.2.length, .int .i64 0, .int .i64 (-1)]]⟩, some ⟨false, 0, 1, a.2.2.map cI⟩]⟩)
    (fun rest a => some (.exit 0, ⟨[(0, .ptr ⟨0, none, 0⟩ 3 0 0), (2, .ptr ⟨1, none, 0⟩ 3 0 0), (3, .ptr ⟨3, none, 0⟩ 3 0 0)], [some ⟨true, 0, 3, [[.tree 1 ((regRun rest a.1 a.2.1 a.2.2).2.b.map cY), .int .i64 ((regRun rest a.1 a.2.1 a.2.2).2.i : Int), .int .i64 (regRun rest a.1 a.2.1 a.2.2).2.h]]⟩, some ⟨true, 0, 3, [[.sl ⟨2, none, 0⟩ 1 0 0, .int .i64 0, .int .i64 0]]⟩, some ⟨false, 0, 1, []⟩, some ⟨true, 0, 3, [[.sl ⟨4, none, 0⟩ 1 0 (regRun rest a.1 a.2.1 a.2.2).1.length, .int .i64 0, .int .i64 (-1)]]⟩, some ⟨false, 0, 1, (regRun rest a.1 a.2.1 a.2.2).1.map cI⟩]⟩)) ?_ ?_ (0, c0, r0) ⟨rfl, hb, hr⟩
  · rintro ⟨i, c, out⟩ ⟨rfl, hb, ho⟩
    have h8 : ((xs.length : Nat) : Int) = 8 := by omega
    rw [loopV_by B0_spec_l15Any.eq_1]
    simp (maxSteps := 10000000) (disch := first | assumption | omega) only [EG, EL, ↓reduceIte, Nat.reduceEqDiff, Nat.reduceAdd, Nat.reduceSub, Nat.reduceMul, Nat.reduceLeDiff, Nat.reduceLT, Int.reduceLT, Int.reduceLE, Int.reduceEq, Int.reduceToNat, reduceCtorEq, FB, ED, EF, FT, cx_spec_l15Any, h8, regRun]
  · rintro i hi0 y rest ⟨i, c, out⟩ rfl rfl ⟨rfl, hb, ho⟩ ih
    simp only at hb ho ih
    have h8 : (i : Int) < 8 := by omega
    have hi1 : i < out.length := by omega
    have hi2 : (i : Int) < (out.length : Int) := by omega
    have p1 := fsem_spec_l01PickInt [0, 1, 2, -1, 5, 999999] (by simp) (by simp)
    simp only [EG, EL, ↓reduceIte, Nat.reduceEqDiff, Nat.reduceAdd, Nat.reduceSub, Nat.reduceMul, Nat.reduceLeDiff, Nat.reduceLT, Int.reduceLT, Int.reduceLE, Int.reduceEq, Int.reduceToNat, reduceCtorEq, FB] at p1
    have i1 := ih (i + 1, (pickF [0, 1, 2, -1, 5, 999999] c).2, out.set i (pickF [0, 1, 2, -1, 5, 999999] c).1) ⟨rfl, by rw [pickF_b]; exact hb, by simp only [List.length_set]; omega⟩
    simp only [EG, EL, ↓reduceIte, Nat.reduceEqDiff, Nat.reduceAdd, Nat.reduceSub, Nat.reduceMul, Nat.reduceLeDiff, Nat.reduceLT, Int.reduceLT, Int.reduceLE, Int.reduceEq, Int.reduceToNat, reduceCtorEq, FB] at i1
    rw [loopV_by B0_spec_l15Any.eq_1]
    simp (maxSteps := 10000000) (disch := first | assumption | omega) only [EG, EL, ↓reduceIte, Nat.reduceEqDiff, Nat.reduceAdd, Nat.reduceSub, Nat.reduceMul, Nat.reduceLeDiff, Nat.reduceLT, Int.reduceLT, Int.reduceLE, Int.reduceEq, Int.reduceToNat, reduceCtorEq, FB, ED, EF, FT, cx_spec_l15Any, cl_spec_l01PickInt, p1, h8, hi1, hi2, getRow _ _ hi1, wrap_succ, regRun, i1]
set_option maxHeartbeats 2000000 in
theorem fsem_spec_l15Any (c : Cur) (hb : c.b.length ≤ 1048576) : H_spec_l15Any [.ptr ⟨0, none, 0⟩ 3 0 0] [some ⟨true, 0, 3, [[.tree 1 (c.b.map cY), .int .i64 (c.i : Int), .int .i64 c.h]]⟩] = some (.agg [.sl ⟨1, none, 0⟩ 1 (l15A c).2.1 (8 - (l15A c).2.1), .int .i64 (l15A c).2.2.1, .int .i64 (l15A c).2.2.2.1], [some ⟨true, 0, 3, [[.tree 1 ((l15A c).2.2.2.2.b.map cY), .int .i64 ((l15A c).2.2.2.2.i : Int), .int .i64 (l15A c).2.2.2.2.h]]⟩, some ⟨false, 0, 1, (l15A c).1.map cI⟩]) := by
  have l := loop_l15Any (List.replicate 8 ()) (by simp) c hb coreNew.Regs (by decide)
  have hd : regRun (List.replicate 8 ()) 0 c coreNew.Regs = l15R c := rfl
  rw [hd, l15R_len] at l
  have hl := @l15R_len c
  have hpc : coreNew.Pc = 0 := rfl
  have hpr : coreNew.Process = -1 := rfl
  have b1 : (l15R c).2.b.length ≤ 1048576 := by rw [l15R_b]; exact hb
  have b2 : (belowF 6 (l15R c).2).2.b.length ≤ 1048576 := by rw [belowF_b]; exact b1
  have b3 : (belowF 5 (belowF 6 (l15R c).2).2).2.b.length ≤ 1048576 := by rw [belowF_b]; exact b2
  have b4 : (belowF 12 (belowF 5 (belowF 6 (l15R c).2).2).2).2.b.length ≤ 1048576 := by rw [belowF_b]; exact b3
  have d5 := @belowF_bd 5 (belowF 6 (l15R c).2).2 (by decide)
  have p1 := fsem_spec_l01PickInt [-1, 900, 9223372036854775807] (by simp) (by simp)
  simp only [EG, EL, ↓reduceIte, Nat.reduceEqDiff, Nat.reduceAdd, Nat.reduceSub, Nat.reduceMul, Nat.reduceLeDiff, Nat.reduceLT, Int.reduceLT, Int.reduceLE, Int.reduceEq, Int.reduceToNat, reduceCtorEq, FB] at p1
  have i0 : 0 < (l15R c).1.length := by omega
  rw [sh_spec_l15Any, run_goF]
  unfold l15A
  by_cases h0 : (belowF 12 (belowF 5 (belowF 6 (l15R c).2).2).2).1 = 0
  · simp (maxSteps := 10000000) (disch := first | assumption | omega) only [F_spec_l15Any, params, EG, EL, ↓reduceIte, Nat.reduceEqDiff, Nat.reduceAdd, Nat.reduceSub, Nat.reduceMul, Nat.reduceLeDiff, Nat.reduceLT, Int.reduceLT, Int.reduceLE, Int.reduceEq, Int.reduceToNat, reduceCtorEq, FB, ED, EF, FT, cx_spec_l15Any, cl_spec_CoreNew, sem_spec_CoreNew, hpc, hpr, l, cl_spec_l01Below, fsem_spec_l01Below, h0, wrapI]
  · by_cases h1 : (belowF 12 (belowF 5 (belowF 6 (l15R c).2).2).2).1 = 1
    · simp (maxSteps := 10000000) (disch := first | assumption | omega) only [F_spec_l15Any, params, EG, EL, ↓reduceIte, Nat.reduceEqDiff, Nat.reduceAdd, Nat.reduceSub, Nat.reduceMul, Nat.reduceLeDiff, Nat.reduceLT, Int.reduceLT, Int.reduceLE, Int.reduceEq, Int.reduceToNat, reduceCtorEq, FB, ED, EF, FT, cx_spec_l15Any, cl_spec_CoreNew, sem_spec_CoreNew, hpc, hpr, l, cl_spec_l01Below, fsem_spec_l01Below, h0, h1, i0, hl, getRow _ _ i0, wrapI]
    · by_cases h2 : (belowF 12 (belowF 5 (belowF 6 (l15R c).2).2).2).1 = 2
      · simp (maxSteps := 10000000) (disch := first | assumption | omega) only [F_spec_l15Any, params, EG, EL, ↓reduceIte, Nat.reduceEqDiff, Nat.reduceAdd, Nat.reduceSub, Nat.reduceMul, Nat.reduceLeDiff, Nat.reduceLT, Int.reduceLT, Int.reduceLE, Int.reduceEq, Int.reduceToNat, reduceCtorEq, FB, ED, EF, FT, cx_spec_l15Any, cl_spec_CoreNew, sem_spec_CoreNew, hpc, hpr, l, cl_spec_l01Below, fsem_spec_l01Below, h0, h1, h2, cl_spec_l01PickInt, p1, wrapI]
      · simp (maxSteps := 10000000) (disch := first | assumption | omega) only [F_spec_l15Any, params, EG, EL, ↓reduceIte, Nat.reduceEqDiff, Nat.reduceAdd, Nat.reduceSub, Nat.reduceMul, Nat.reduceLeDiff, Nat.reduceLT, Int.reduceLT, Int.reduceLE, Int.reduceEq, Int.reduceToNat, reduceCtorEq, FB, ED, EF, FT, cx_spec_l15Any, cl_spec_CoreNew, sem_spec_CoreNew, hpc, hpr, l, cl_spec_l01Below, fsem_spec_l01Below, h0, h1, h2, wrapI]
theorem seg_drop8 {l : List Int} {o : Nat} (h : l.length = 8) : seg (l.map cI) o (8 - o) = (l.drop o).map cI := by
  unfold seg
  rw [← List.map_drop, List.take_of_length_le]
  simp [h]
theorem drop8_0 {l : List Int} : l.drop 0 = l := rfl
/-! bytes and strings; numbers as bytes -/
def bsA (l : List UInt8) : ByteArray := ⟨l.toArray⟩
theorem bsA_nil : (⟨#[]⟩ : ByteArray) = bsA [] := rfl
theorem bsA_size {l : List UInt8} : (bsA l).size = l.length := by simp [bsA, ByteArray.size]
theorem bsA_app {a b : List UInt8} : bsA a ++ bsA b = bsA (a ++ b) := by
  apply ByteArray.ext
  simp [bsA]
theorem bsA_mk {l : List UInt8} : (⟨l.toArray⟩ : ByteArray) = bsA l := rfl
theorem bsA_inj {a b : List UInt8} : bsA a = bsA b ↔ a = b := by
  constructor
  · intro h
    have := congrArg (fun x : ByteArray => x.data.toList) h
    simpa [bsA] using this
  · intro h; rw [h]
theorem bytesOf_map : ∀ {l : List UInt8}, bytesOf (l.map cY) = some l
  | [] => rfl
  | b :: l => by
    simp only [List.map_cons, cY, bytesOf, bytesOf_map (l := l), Option.map_some]
    congr 1
    simp
theorem map_cY_snoc {xs : List UInt8} {v : Int} {b : UInt8} (h : v = (b.toNat : Int)) : xs.map cY ++ [[.int .u8 v]] = (xs ++ [b]).map cY := by rw [h]; exact snoc_cY
theorem wrap_u8 {k : Nat} (h : k < 256) : IntKind.wrap .u8 (k : Int) = ((UInt8.ofNat k).toNat : Int) := by
  have : (UInt8.ofNat k).toNat = k := by rw [UInt8.toNat_ofNat']; exact Nat.mod_eq_of_lt h
  rw [this]
  have e : ∀ j : Int, 0 ≤ j → j < 256 → IntKind.wrap .u8 j = j := by
    intro j h1 h2
    simp [IntKind.wrap, IntKind.signed, IntKind.bits]
    omega
  exact e _ (by omega) (by omega)
def varI (n : Nat) : List UInt8 := if h : 127 < n then UInt8.ofNat (n % 128 + 128) :: varI (n / 128) else []
termination_by n
decreasing_by omega
def varL (n : Nat) : Nat := if h : 127 < n then varL (n / 128) else n
termination_by n
decreasing_by omega
theorem varI_hi {n : Nat} (h : 127 < n) : varI n = UInt8.ofNat (n % 128 + 128) :: varI (n / 128) := by rw [varI, dif_pos h]
theorem varI_lo {n : Nat} (h : ¬ 127 < n) : varI n = [] := by rw [varI, dif_neg h]
theorem varL_hi {n : Nat} (h : 127 < n) : varL n = varL (n / 128) := by rw [varL, dif_pos h]
theorem varL_lo {n : Nat} (h : ¬ 127 < n) : varL n = n := by rw [varL, dif_neg h]
theorem varL_le (n : Nat) : varL n ≤ 127 := by
  induction n using Nat.strongRecOn with
  | ind n ih =>
    by_cases h : 127 < n
    · rw [varL_hi h]; exact ih _ (by omega)
    · rw [varL_lo h]; omega
theorem varI_len (n : Nat) : (varI n).length ≤ n := by
  induction n using Nat.strongRecOn with
  | ind n ih =>
    by_cases h : 127 < n
    · rw [varI_hi h, List.length_cons]
      have := ih (n / 128) (by omega)
      omega
    · rw [varI_lo h]; simp
theorem varI_len5 (n : Nat) (h : n ≤ 17179869184) : (varI n).length ≤ 4 := by
  by_cases h1 : 127 < n
  · rw [varI_hi h1]
    by_cases h2 : 127 < n / 128
    · rw [varI_hi h2]
      by_cases h3 : 127 < n / 128 / 128
      · rw [varI_hi h3]
        by_cases h4 : 127 < n / 128 / 128 / 128
        · rw [varI_hi h4]
          by_cases h5 : 127 < n / 128 / 128 / 128 / 128
          · omega
          · rw [varI_lo h5]; simp
        · rw [varI_lo h4]; simp
      · rw [varI_lo h3]; simp
    · rw [varI_lo h2]; simp
  · rw [varI_lo h1]; simp
def varN (n : Nat) : List UInt8 := varI n ++ [UInt8.ofNat (varL n)]
theorem varN_len (n : Nat) (h : n ≤ 17179869184) : (varN n).length ≤ 5 := by
  have := varI_len5 n h
  unfold varN
  simp only [List.length_append, List.length_singleton]; omega
theorem tmod_cast {n : Nat} : Int.tmod (n : Int) 128 = ((n % 128 : Nat) : Int) := by
  rw [Int.tmod_eq_emod_of_nonneg (by omega)]; omega
theorem tdiv_cast {n : Nat} : Int.tdiv (n : Int) 128 = ((n / 128 : Nat) : Int) := by
  rw [Int.tdiv_eq_ediv_of_nonneg (by omega)]; omega
theorem seg_snocY {xs : List UInt8} {b : UInt8} : seg ((xs ++ [b]).map cY) 0 (xs.length + 1) = (xs ++ [b]).map cY := by
  unfold seg
  rw [List.drop_zero, List.take_of_length_le (by simp)]
theorem byte_hi {n : Nat} : IntKind.wrap .u8 (IntKind.wrap .i64 (Int.tmod (n : Int) 128 + 128)) = ((UInt8.ofNat (n % 128 + 128)).toNat : Int) := by
  rw [tmod_cast, wrapI (by omega) (by omega)]
  have : ((n % 128 : Nat) : Int) + 128 = ((n % 128 + 128 : Nat) : Int) := by omega
  rw [this]
  exact wrap_u8 (by omega)
def xor32 (x y : Int) : Int := IntKind.wrap .u32 (BitVec.ofInt 32 x ^^^ BitVec.ofInt 32 y).toNat
theorem bxor32 {x y : Int} : bin .xor (.int .u32 x) (.int .u32 y) = some (.int .u32 (xor32 x y)) := rfl
def roundF (s : Int) : Int := if s.tmod 2 = 1 then xor32 (IntKind.wrap .u32 (s.tdiv 2)) 3558460437 else IntKind.wrap .u32 (s.tdiv 2)
def roundsF : List Unit → Int → Int
  | [], s => s
  | _ :: r, s => roundsF r (roundF s)
def sumF : List UInt8 → Int → Int
  | [], s => s
  | b :: r, s => sumF r (roundsF (List.replicate 8 ()) (xor32 s (IntKind.wrap .u32 (b.toNat : Int))))
def h24 (x : Int) : Int := x.fdiv (2 ^ 24)
def h16 (x : Int) : Int := x.fdiv (2 ^ 16)
def h8 (x : Int) : Int := x.fdiv (2 ^ 8)
theorem bh24 {x : Int} : bin .shr (.int .u32 x) (.int .u64 24) = some (.int .u32 (h24 x)) := rfl
theorem bh16 {x : Int} : bin .shr (.int .u32 x) (.int .u64 16) = some (.int .u32 (h16 x)) := rfl
theorem bh8 {x : Int} : bin .shr (.int .u32 x) (.int .u64 8) = some (.int .u32 (h8 x)) := rfl
def fourF (x : Int) : List UInt8 := [UInt8.ofNat (IntKind.wrap .u8 (h24 x)).toNat, UInt8.ofNat (IntKind.wrap .u8 (h16 x)).toNat, UInt8.ofNat (IntKind.wrap .u8 (h8 x)).toNat, UInt8.ofNat (IntKind.wrap .u8 x).toNat]
theorem seg_four {a b c d : List AV} : seg [a, b, c, d] 0 4 = [a, b, c, d] := rfl
theorem bsA_get {l : List UInt8} {i : Nat} (h : i < l.length) : (bsA l).data.getD i 0 = l[i] := by
  simp [bsA, Array.getD_eq_getD_getElem?, h]
def sealF (l : List UInt8) : List UInt8 × Bool := if 20000 < l.length then ([], false) else (l ++ fourF (sumF l 4294967295), true)
def stS (n : Int) : Option Int → List Int → Bool
  | _, [] => true
  | p, a :: r => decide (0 ≤ a ∧ a ≤ n - 1) && ((match p with | none => decide (a = 0) | some q => decide (q < a)) && stS n (some a) r)
def stI (n : Int) : Option Int → List Int → Bool
  | _, [] => true
  | p, a :: r => decide (a < n) && ((match p with | none => true | some q => decide (q < a)) && stI n (some a) r)
theorem stS_none {n a : Int} {r : List Int} : stS n none (a :: r) = (decide (0 ≤ a ∧ a ≤ n - 1) && (decide (a = 0) && stS n (some a) r)) := rfl
theorem stS_some {n a q : Int} {r : List Int} : stS n (some q) (a :: r) = (decide (0 ≤ a ∧ a ≤ n - 1) && (decide (q < a) && stS n (some a) r)) := rfl
theorem stI_none {n a : Int} {r : List Int} : stI n none (a :: r) = (decide (a < n) && (true && stI n (some a) r)) := rfl
theorem stI_some {n a q : Int} {r : List Int} : stI n (some q) (a :: r) = (decide (a < n) && (decide (q < a) && stI n (some a) r)) := rfl
theorem stSI {n : Int} : ∀ {q : Int} {xs : List Int}, 0 ≤ q → stS n (some q) xs = stI n (some q) xs
  | q, [], _ => rfl
  | q, a :: r, h => by
    rw [stS_some, stI_some]
    by_cases h1 : q < a
    · rw [stSI (q := a) (xs := r) (by omega)]
      have e : (decide (0 ≤ a ∧ a ≤ n - 1)) = decide (a < n) := by rw [decide_eq_decide]; omega
      rw [e]
    · simp [h1]
theorem stS_first {n : Int} (hn : 1 ≤ n) : ∀ (l : List Int) (h : 0 < l.length), stS n none l = (decide (l[0] = 0) && stI n none l)
  | [], h => by simp at h
  | y :: ys, _ => by
    simp only [List.getElem_cons_zero]
    rw [stS_none, stI_none]
    by_cases hy : y = 0
    · subst hy
      rw [stSI (Int.le_refl 0)]
      have e : decide ((0 : Int) ≤ 0 ∧ (0 : Int) ≤ n - 1) = decide ((0 : Int) < n) := by rw [decide_eq_decide]; omega
      rw [e]; simp
    · simp [hy]
def prevO (xs : List Int) : Nat → Option Int
  | 0 => none
  | j + 1 => xs[j]?
def wordB (n size w : Int) : Bool := decOk w && ((!(memF (dOp w) && decide (size ≤ dC w))) && (!((decide (dOp w = 7) || decide (dOp w = 8)) && decide (n ≤ dC w))))
def lastF : List Int → DIns → DIns
  | [], d => d
  | w :: r, _ => lastF r ⟨dOp w, dA w, dB w, dC w⟩
def imageOkF (x : DImage) : Bool := decide (1 ≤ (x.Starts.length : Int) ∧ (x.Starts.length : Int) ≤ 4) && (decide (1 ≤ (x.Text.length : Int) ∧ (x.Text.length : Int) ≤ 800) && (decide (1 ≤ x.Size ∧ x.Size ≤ 100) && (stS x.Text.length none x.Starts && (x.Text.all (wordB x.Text.length x.Size) && (decide ((lastF x.Text ⟨0, 0, 0, 0⟩).Op = 10) && decide ((lastF x.Text ⟨0, 0, 0, 0⟩).A = 7))))))
def varZ (n : Int) : List UInt8 := varN n.toNat
theorem varZ_len {n : Int} (h : n ≤ 17179869184) : (varZ n).length ≤ 5 := varN_len _ (by omega)
theorem byteE_bsA {l : List UInt8} : byteE (bsA l) = l.map cY := rfl
theorem map_cY_app {a b : List UInt8} : a.map cY ++ b.map cY = (a ++ b).map cY := by rw [List.map_append]
theorem map_cI_two {xs : List Int} {a b : Int} : xs.map cI ++ [[.int .i64 a], [.int .i64 b]] = (xs ++ [a, b]).map cI := by simp
theorem seg_two {a b : List AV} : seg [a, b] 0 2 = [a, b] := rfl
def midF (ws : List Int) : List Int := ws.flatMap fun w => [s22 w, dC w]
theorem midF_cons {w : Int} {ws : List Int} : midF (w :: ws) = [s22 w, dC w] ++ midF ws := rfl
theorem midF_nil : midF [] = [] := rfl
theorem midF_len : ∀ {ws : List Int}, (midF ws).length = 2 * ws.length
  | [] => rfl
  | w :: ws => by rw [midF_cons, List.length_append, midF_len (ws := ws)]; simp only [List.length_cons, List.length_nil]; omega
def varsF (ns : List Int) : List UInt8 := ns.flatMap varZ
theorem varsF_app {a b : List Int} : varsF (a ++ b) = varsF a ++ varsF b := by simp [varsF]
theorem varsF_one {a : Int} : varsF [a] = varZ a := by simp [varsF]
theorem varsF_cons {a : Int} {b : List Int} : varsF (a :: b) = varZ a ++ varsF b := by simp [varsF]
theorem varsF_nil : varsF [] = [] := rfl
theorem varsF_len : ∀ {ns : List Int}, (∀ n ∈ ns, n ≤ 17179869184) → (varsF ns).length ≤ 5 * ns.length
  | [], _ => by simp [varsF]
  | n :: ns, h => by
    rw [varsF_cons, List.length_append, List.length_cons]
    have h1 := varZ_len (h n (by simp))
    have h2 := varsF_len (ns := ns) fun m hm => h m (by simp [hm])
    omega
theorem dec_bd {w : Int} (h : decOk w = true) : (0 ≤ s22 w ∧ s22 w ≤ 1000000000) ∧ (0 ≤ dC w ∧ dC w ≤ 1000000000) := by
  unfold decOk at h
  simp only [Bool.and_eq_true, decide_eq_true_eq] at h
  obtain ⟨h0, h1⟩ := h
  have hb := insOk_bd h1
  have h2 : dOp w ≤ 10 := hb.1.2
  unfold dOp at h2
  rw [Int.fdiv_eq_ediv_of_nonneg _ (by decide)] at h2
  unfold s22
  rw [Int.fdiv_eq_ediv_of_nonneg _ (by decide)]
  omega
theorem mid_bd {ws : List Int} (h : ∀ w ∈ ws, decOk w = true) : ∀ n ∈ midF ws, 0 ≤ n ∧ n ≤ 1000000000 := by
  intro n hn
  unfold midF at hn
  rw [List.mem_flatMap] at hn
  obtain ⟨w, hw, hn⟩ := hn
  have := dec_bd (h w hw)
  simp only [List.mem_cons, List.mem_nil_iff, or_false] at hn
  rcases hn with rfl | rfl
  · exact this.1
  · exact this.2
def numsF (x : DImage) : List Int := ((x.Text.length : Int) :: midF x.Text) ++ ((x.Starts.length : Int) :: x.Starts) ++ [x.Size]
theorem imageOk_parts {x : DImage} (h : imageOkF x = true) : (1 ≤ (x.Starts.length : Int) ∧ (x.Starts.length : Int) ≤ 4) ∧ (1 ≤ (x.Text.length : Int) ∧ (x.Text.length : Int) ≤ 800) ∧ (1 ≤ x.Size ∧ x.Size ≤ 100) ∧ stS x.Text.length none x.Starts = true ∧ (∀ w ∈ x.Text, decOk w = true) := by
  unfold imageOkF at h
  simp only [Bool.and_eq_true, decide_eq_true_eq, List.all_eq_true] at h
  refine ⟨h.1, h.2.1, h.2.2.1, h.2.2.2.1, fun w hw => ?_⟩
  have := h.2.2.2.2.1 w hw
  unfold wordB at this
  simp only [Bool.and_eq_true] at this
  exact this.1
theorem stS_bd {n : Int} : ∀ {p : Option Int} {xs : List Int}, stS n p xs = true → ∀ a ∈ xs, 0 ≤ a ∧ a ≤ n - 1
  | p, [], _, a, ha => by simp at ha
  | p, y :: ys, h, a, ha => by
    unfold stS at h
    simp only [Bool.and_eq_true, decide_eq_true_eq] at h
    rcases List.mem_cons.1 ha with rfl | ha
    · exact h.1
    · exact stS_bd h.2.2 a ha
theorem nums_bd {x : DImage} (h : imageOkF x = true) : ∀ n ∈ numsF x, 0 ≤ n ∧ n ≤ 1000000000 := by
  obtain ⟨h1, h2, h3, h4, h5⟩ := imageOk_parts h
  intro n hn
  unfold numsF at hn
  simp only [List.mem_append, List.mem_cons, List.mem_nil_iff, or_false] at hn
  rcases hn with ((rfl | hn) | (rfl | hn)) | rfl
  · omega
  · exact mid_bd h5 n hn
  · omega
  · have := stS_bd h4 n hn; omega
  · omega
theorem nums_len {x : DImage} : (numsF x).length = 2 * x.Text.length + x.Starts.length + 3 := by
  unfold numsF
  simp only [List.length_append, List.length_cons, List.length_nil, midF_len]; omega
def imageTextF (x : DImage) : List UInt8 × Bool := if imageOkF x = true then sealF (varsF (numsF x)) else ([], false)
theorem imageText_len (x : DImage) (h : imageOkF x = true) : (varsF (numsF x)).length ≤ 100000 := by
  have h1 := varsF_len (ns := numsF x) fun n hn => by have := nums_bd h n hn; omega
  rw [nums_len] at h1
  have := imageOk_parts h
  omega
def memRun : List Unit → Nat → Cur → List Int → List Int × Cur
  | [], _, c, out => (out, (belowF 30 c).2)
  | _ :: n, i, c, out => if (i : Int) < (belowF 30 c).1 then memRun n (i + 1) (pickF [0, 1, 5, -3, 1000001] (belowF 30 c).2).2 (out ++ [(pickF [0, 1, 5, -3, 1000001] (belowF 30 c).2).1]) else (out, (belowF 30 c).2)
theorem memRun_b : ∀ {n : List Unit} {i : Nat} {c : Cur} {out : List Int}, (memRun n i c out).2.b = c.b
  | [], _, _, _ => by simp only [memRun, belowF_b]
  | _ :: n, i, c, out => by
    simp only [memRun]
    split
    · rw [memRun_b, pickF_b, belowF_b]
    · exact belowF_b
theorem memRun_len : ∀ {n : List Unit} {i : Nat} {c : Cur} {out : List Int}, (memRun n i c out).1.length ≤ out.length + n.length
  | [], _, _, _ => Nat.le_refl _
  | _ :: n, i, c, out => by
    simp only [memRun]
    split
    · have := @memRun_len n (i + 1) (pickF [0, 1, 5, -3, 1000001] (belowF 30 c).2).2 (out ++ [(pickF [0, 1, 5, -3, 1000001] (belowF 30 c).2).1])
      simp only [List.length_append, List.length_cons, List.length_nil] at this ⊢
      omega
    · simp only [List.length_cons]; omega
def drawMem (c : Cur) : List Int × Cur := memRun (List.replicate 30 ()) 0 c []
theorem drawMem_b {c : Cur} : (drawMem c).2.b = c.b := memRun_b
theorem drawMem_len {c : Cur} : (drawMem c).1.length ≤ 30 := by
  have := @memRun_len (List.replicate 30 ()) 0 c []
  rw [List.length_replicate, List.length_nil] at this
  unfold drawMem; omega
def stepDraw (bs : List UInt8) : DCore × List Int × List Int :=
  (⟨(l15A (drawMem (curNew bs)).2).1.drop (l15A (drawMem (curNew bs)).2).2.1, (l15A (drawMem (curNew bs)).2).2.2.1, (l15A (drawMem (curNew bs)).2).2.2.2.1⟩, (drawText (l15A (drawMem (curNew bs)).2).2.2.2.2).1, (drawMem (curNew bs)).1)
theorem stepDraw_len {bs : List UInt8} : (stepDraw bs).1.Regs.length ≤ 8 ∧ (stepDraw bs).2.1.length ≤ 7 ∧ (stepDraw bs).2.2.length ≤ 30 := by
  have h1 : (stepDraw bs).1.Regs.length ≤ 8 := by
    unfold stepDraw
    dsimp only
    rw [List.length_drop, l15A_len]
    exact Nat.sub_le _ _
  have h2 : (stepDraw bs).2.1.length ≤ 7 := by
    unfold stepDraw
    dsimp only
    exact drawText_len
  have h3 : (stepDraw bs).2.2.length ≤ 30 := by
    unfold stepDraw
    dsimp only
    exact drawMem_len
  exact ⟨h1, h2, h3⟩
theorem loop_DrawStepCore (xs : List Unit) (hxs : xs.length = 30) (c0 : Cur) (hb : c0.b.length ≤ 1048576) : loopV X_spec_DrawStepCore 0 [2, 5, 6, 7] [(1, [2, 5, 6])] B0_spec_DrawStepCore ⟨[(2, .ptr ⟨0, none, 0⟩ 3 0 0), (5, .ptr ⟨2, none, 0⟩ 3 0 0), (6, .sl ⟨3, none, 0⟩ 1 0 0), (7, .int .i64 0)], [some ⟨true, 0, 3, [[.sl ⟨1, none, 0⟩ 1 0 0, .int .i64 0, .int .i64 0]]⟩, some ⟨false, 0, 1, []⟩, some ⟨true, 0, 3, [[.tree 1 (c0.b.map cY), .int .i64 (c0.i : Int), .int .i64 c0.h]]⟩, some ⟨false, 0, 1, []⟩]⟩
    = some (.exit 0, ⟨[(2, .ptr ⟨0, none, 0⟩ 3 0 0), (5, .ptr ⟨2, none, 0⟩ 3 0 0), (6, .sl ⟨3, none, 0⟩ 1 0 (memRun xs 0 c0 []).1.length)], [some ⟨true, 0, 3, [[.sl ⟨1, none, 0⟩ 1 0 0, .int .i64 0, .int .i64 0]]⟩, some ⟨false, 0, 1, []⟩, some ⟨true, 0, 3, [[.tree 1 ((memRun xs 0 c0 []).2.b.map cY), .int .i64 ((memRun xs 0 c0 []).2.i : Int), .int .i64 (memRun xs 0 c0 []).2.h]]⟩, some ⟨false, 0, 1, (memRun xs 0 c0 []).1.map cI⟩]⟩) := by
  refine loop_list xs (fun i (a : Nat × Cur × List Int) => a.1 = i ∧ a.2.1.b.length ≤ 1048576 ∧ a.2.2.length ≤ i) (fun i a => ⟨[(2, .ptr ⟨0, none, 0⟩ 3 0 0), (5, .ptr ⟨2, none, 0⟩ 3 0 0), (6, .sl ⟨3, none, 0⟩ 1 0 a.2.2.length), (7, .int .i64 ((i : Nat) : Int))], [some ⟨true, 0, 3, [[.sl ⟨1, none, 0⟩ 1 0 0, .int .i64 0, .int .i64 0]]⟩, some ⟨false, 0, 1, []⟩, some ⟨true, 0, 3, [[.tree 1 (a.2.1.b.map cY), .int .i64 (a.2.1.i : Int), .int .i64 a.2.1.h]]⟩, some ⟨false, 0, 1, a.2.2.map cI⟩]⟩)
    (fun rest a => some (.exit 0, ⟨[(2, .ptr ⟨0, none, 0⟩ 3 0 0), (5, .ptr ⟨2, none, 0⟩ 3 0 0), (6, .sl ⟨3, none, 0⟩ 1 0 (memRun rest a.1 a.2.1 a.2.2).1.length)], [some ⟨true, 0, 3, [[.sl ⟨1, none, 0⟩ 1 0 0, .int .i64 0, .int .i64 0]]⟩, some ⟨false, 0, 1, []⟩, some ⟨true, 0, 3, [[.tree 1 ((memRun rest a.1 a.2.1 a.2.2).2.b.map cY), .int .i64 ((memRun rest a.1 a.2.1 a.2.2).2.i : Int), .int .i64 (memRun rest a.1 a.2.1 a.2.2).2.h]]⟩, some ⟨false, 0, 1, (memRun rest a.1 a.2.1 a.2.2).1.map cI⟩]⟩)) ?_ ?_ (0, c0, []) ⟨rfl, hb, Nat.le_refl _⟩
  · rintro ⟨i, c, out⟩ ⟨rfl, hb, ho⟩
    simp only at hb ho
    have hd := @belowF_bd 30 c (by decide)
    have hlt : ¬ ((xs.length : Nat) : Int) < (belowF 30 c).1 := by omega
    rw [loopV_by B0_spec_DrawStepCore.eq_1]
    simp (maxSteps := 10000000) (disch := first | assumption | omega) only [EG, EL, ↓reduceIte, Nat.reduceEqDiff, Nat.reduceAdd, Nat.reduceSub, Nat.reduceMul, Nat.reduceLeDiff, Nat.reduceLT, Int.reduceLT, Int.reduceLE, Int.reduceEq, Int.reduceToNat, reduceCtorEq, FB, ED, EF, FT, cx_spec_DrawStepCore, cl_spec_l01Below, fsem_spec_l01Below, hlt, memRun]
  · rintro i hi0 y rest ⟨i, c, out⟩ rfl rfl ⟨rfl, hb, ho⟩ ih
    simp only at hb ho ih
    have b1 : (belowF 30 c).2.b.length ≤ 1048576 := by rw [belowF_b]; exact hb
    have hc : (out.length + 1) * 8 ≤ 70368744177664 := by omega
    have p1 := fsem_spec_l01PickInt [0, 1, 5, -3, 1000001] (by simp) (by simp)
    simp only [EG, EL, ↓reduceIte, Nat.reduceEqDiff, Nat.reduceAdd, Nat.reduceSub, Nat.reduceMul, Nat.reduceLeDiff, Nat.reduceLT, Int.reduceLT, Int.reduceLE, Int.reduceEq, Int.reduceToNat, reduceCtorEq, FB] at p1
    rw [loopV_by B0_spec_DrawStepCore.eq_1]
    by_cases hlt : (i : Int) < (belowF 30 c).1
    · have i1 := ih (i + 1, (pickF [0, 1, 5, -3, 1000001] (belowF 30 c).2).2, out ++ [(pickF [0, 1, 5, -3, 1000001] (belowF 30 c).2).1]) ⟨rfl, by rw [pickF_b]; exact b1, by simp only [List.length_append, List.length_singleton]; omega⟩
      simp only [EG, EL, ↓reduceIte, Nat.reduceEqDiff, Nat.reduceAdd, Nat.reduceSub, Nat.reduceMul, Nat.reduceLeDiff, Nat.reduceLT, Int.reduceLT, Int.reduceLE, Int.reduceEq, Int.reduceToNat, reduceCtorEq, FB] at i1
      simp (maxSteps := 10000000) (disch := first | assumption | omega) only [EG, EL, ↓reduceIte, Nat.reduceEqDiff, Nat.reduceAdd, Nat.reduceSub, Nat.reduceMul, Nat.reduceLeDiff, Nat.reduceLT, Int.reduceLT, Int.reduceLE, Int.reduceEq, Int.reduceToNat, reduceCtorEq, FB, ED, EF, FT, cx_spec_DrawStepCore, cl_spec_l01Below, fsem_spec_l01Below, cl_spec_l01PickInt, p1, wrap_succ, hlt, hc, map_cI_snoc, memRun, i1]
    · simp (maxSteps := 10000000) (disch := first | assumption | omega) only [EG, EL, ↓reduceIte, Nat.reduceEqDiff, Nat.reduceAdd, Nat.reduceSub, Nat.reduceMul, Nat.reduceLeDiff, Nat.reduceLT, Int.reduceLT, Int.reduceLE, Int.reduceEq, Int.reduceToNat, reduceCtorEq, FB, ED, EF, FT, cx_spec_DrawStepCore, cl_spec_l01Below, fsem_spec_l01Below, hlt, memRun]
theorem sem_spec_DrawStepCore (bs : List UInt8) (hb : bs.length ≤ 1048576) : S_spec_DrawStepCore.sem [.tree 1 (bs.map cY)] = some (.tup [.agg (cCore (stepDraw bs).1), .tree 1 ((stepDraw bs).2.1.map cI), .tree 1 ((stepDraw bs).2.2.map cI)], []) := by
  have hb' : (curNew bs).b.length ≤ 1048576 := hb
  have l := loop_DrawStepCore (List.replicate 30 ()) (by simp) (curNew bs) hb'
  have hd : memRun (List.replicate 30 ()) 0 (curNew bs) [] = drawMem (curNew bs) := by rw [drawMem]
  rw [hd] at l
  have b1 : (drawMem (curNew bs)).2.b.length ≤ 1048576 := by rw [drawMem_b]; exact hb'
  rw [sg_spec_DrawStepCore, sem_go]
  unfold stepDraw
  generalize drawMem (curNew bs) = M at l b1 ⊢
  obtain ⟨mem, c⟩ := M
  simp only at l b1 ⊢
  have h8 := @l15A_len c
  have ho := @l15A_off c
  have b2 : (l15A c).2.2.2.2.b.length ≤ 1048576 := by rw [l15A_b]; exact b1
  have k1 := fsem_spec_l15Any c b1
  have k2 := fsem_spec_l15Text (l15A c).2.2.2.2 b2
  have h1 : (l15A c).2.1 = 0 ∨ (l15A c).2.1 = 1 := by omega
  have hs := @seg_drop8 (l15A c).1 1 h8
  simp only [EG, EL, ↓reduceIte, Nat.reduceEqDiff, Nat.reduceAdd, Nat.reduceSub, Nat.reduceMul, Nat.reduceLeDiff, Nat.reduceLT, Int.reduceLT, Int.reduceLE, Int.reduceEq, Int.reduceToNat, reduceCtorEq, FB] at hs
  rcases h1 with h1 | h1
  all_goals rw [h1] at k1
  all_goals simp only [EG, EL, ↓reduceIte, Nat.reduceEqDiff, Nat.reduceAdd, Nat.reduceSub, Nat.reduceMul, Nat.reduceLeDiff, Nat.reduceLT, Int.reduceLT, Int.reduceLE, Int.reduceEq, Int.reduceToNat, reduceCtorEq, FB] at k1
  all_goals simp (maxSteps := 10000000) (disch := first | assumption | omega) only [F_spec_DrawStepCore, params, EG, EL, ↓reduceIte, Nat.reduceEqDiff, Nat.reduceAdd, Nat.reduceSub, Nat.reduceMul, Nat.reduceLeDiff, Nat.reduceLT, Int.reduceLT, Int.reduceLE, Int.reduceEq, Int.reduceToNat, reduceCtorEq, FB, ED, EF, FT, cx_spec_DrawStepCore, cl_spec_l01New, fsem_spec_l01New, l, cl_spec_l15Any, k1, cl_spec_l15Text, k2, h1, h8, hs, drop8_0]
theorem sem_laws_sameInts_same (xs : List Int) (hl : xs.length ≤ 140737488351232) : S_laws_sameInts.sem [.tree 1 (xs.map cI), .tree 1 (xs.map cI)] = some (.bool true, []) := by
  have loop : loopV X_laws_sameInts 0 [0, 1, 5] [(1, []), (0, [4])] B0_laws_sameInts ⟨[(0, .tree 1 (xs.map cI)), (1, .tree 1 (xs.map cI)), (5, .int .i64 0)], []⟩ = some (.exit 0, ⟨[], []⟩) := by
    refine loop_list xs (fun _ (_ : Unit) => True) (fun i _ => ⟨[(0, .tree 1 (xs.map cI)), (1, .tree 1 (xs.map cI)), (5, .int .i64 (i : Int))], []⟩) (fun rest _ => some (.exit 0, ⟨[], []⟩)) ?_ ?_ () trivial
    · intro _ _
      rw [loopV_by B0_laws_sameInts.eq_1]
      simp only [EG, EL, ↓reduceIte, Nat.reduceEqDiff, Nat.reduceAdd, Nat.reduceSub, Nat.reduceMul, Nat.reduceLeDiff, Nat.reduceLT, Int.reduceLT, Int.reduceLE, Int.reduceEq, Int.reduceToNat, reduceCtorEq, FB, ED, int_lt_irrefl]
    · rintro i h y rest _ rfl rfl _ ih
      have hi : (i : Int) < (xs.length : Int) := by omega
      rw [loopV_by B0_laws_sameInts.eq_1]
      simp (maxSteps := 10000000) (disch := first | assumption | omega) only [EG, EL, ↓reduceIte, Nat.reduceEqDiff, Nat.reduceAdd, Nat.reduceSub, Nat.reduceMul, Nat.reduceLeDiff, Nat.reduceLT, Int.reduceLT, Int.reduceLE, Int.reduceEq, Int.reduceToNat, reduceCtorEq, FB, ED, FT, cx_laws_sameInts, hi, wrap_succ, getRow _ _ h, ih () trivial, decide_true, decide_false]
  rw [sg_laws_sameInts, sem_go]
  simp (maxSteps := 10000000) (disch := first | assumption | omega) only [F_laws_sameInts, params, EG, EL, ↓reduceIte, Nat.reduceEqDiff, Nat.reduceAdd, Nat.reduceSub, Nat.reduceMul, Nat.reduceLeDiff, Nat.reduceLT, Int.reduceLT, Int.reduceLE, Int.reduceEq, Int.reduceToNat, reduceCtorEq, FB, ED, loop]
theorem sem_laws_sameCore_same (x : DCore) (hl : x.Regs.length ≤ 140737488351232) : S_laws_sameCore.sem [.agg (cCore x), .agg (cCore x)] = some (.bool true, []) := by
  rw [sg_laws_sameCore, sem_go]
  simp (maxSteps := 10000000) (disch := first | assumption | omega) only [cCore, F_laws_sameCore, params, EG, EL, ↓reduceIte, Nat.reduceEqDiff, Nat.reduceAdd, Nat.reduceSub, Nat.reduceMul, Nat.reduceLeDiff, Nat.reduceLT, Int.reduceLT, Int.reduceLE, Int.reduceEq, Int.reduceToNat, reduceCtorEq, FB, ED, FT, cx_laws_sameCore, cl_laws_sameInts, sem_laws_sameInts_same, decide_true, decide_false]
theorem calcF_2 (op a b : Int) : (calcF op a b).2 ≠ 10 := by
  unfold calcF
  (repeat' split) <;> simp
theorem negF_2 (a : Int) : (negF a).2 ≠ 10 := by
  unfold negF
  split <;> simp
theorem getD_set_other {l : List Int} {i j : Nat} {v d : Int} (h : i ≠ j) : (l.set j v).getD i d = l.getD i d := by
  rw [List.getD_eq_getElem?_getD, List.getD_eq_getElem?_getD, List.getElem?_set_ne (Ne.symm h)]
structure StepS (x : DCore) (m : List Int) (op : Int) (A C : Nat) (r : DCore × List Int × Int) : Prop where
  fault : r.2.2 ≠ 0 → r.2.2 ≠ 10 → r.1 = x ∧ r.2.1 = m
  regs : r.1.Regs = x.Regs ∨ ∃ v, r.1.Regs = x.Regs.set A v
  mem : r.2.1 = m ∨ ((op = 3 ∨ op = 9) ∧ ∃ v, r.2.1 = m.set C v)
  pc : (r.2.2 = 0 ∨ r.2.2 = 10) → r.1.Pc = IntKind.wrap .i64 (x.Pc + 1) ∨ ((op = 7 ∨ op = 8) ∧ r.1.Pc = (C : Int))
theorem StepS.same {x : DCore} {m : List Int} {op : Int} {A C : Nat} {f : Int} (h0 : f ≠ 0) (h1 : f ≠ 10) : StepS x m op A C (x, m, f) := ⟨fun _ _ => ⟨rfl, rfl⟩, .inl rfl, .inl rfl, fun h => by rcases h with h | h; exact absurd h h0; exact absurd h h1⟩
theorem stepG_shape (x : DCore) (m : List Int) (op : Int) (A B C : Nat) : StepS x m op A C (stepG x m op A B C) := by
  unfold stepG
  by_cases h1 : op = 2 ∨ op = 3 ∨ op = 9
  · rw [if_pos h1]
    by_cases h2 : m.length ≤ C
    · rw [if_pos h2]; exact StepS.same (by decide) (by decide)
    · rw [if_neg h2]
      by_cases h3 : op = 3
      · rw [if_pos h3]; exact ⟨fun h => absurd rfl h, .inl rfl, .inr ⟨.inl h3, _, rfl⟩, fun _ => .inl rfl⟩
      · rw [if_neg h3]
        by_cases h4 : valOk (m.getD C 0) = true
        · rw [if_pos h4]
          by_cases h5 : op = 9
          · rw [if_pos h5]; exact ⟨fun h => absurd rfl h, .inr ⟨_, rfl⟩, .inr ⟨.inr h5, _, rfl⟩, fun _ => .inl rfl⟩
          · rw [if_neg h5]; exact ⟨fun h => absurd rfl h, .inr ⟨_, rfl⟩, .inl rfl, fun _ => .inl rfl⟩
        · rw [if_neg h4]; exact StepS.same (by decide) (by decide)
  · rw [if_neg h1]
    by_cases h2 : op = 7
    · rw [if_pos h2]
      refine ⟨fun h => absurd rfl h, .inl rfl, .inl rfl, fun _ => ?_⟩
      dsimp only
      split
      · exact .inr ⟨.inl h2, rfl⟩
      · exact .inl rfl
    · rw [if_neg h2]
      by_cases h3 : op = 8
      · rw [if_pos h3]; exact ⟨fun h => absurd rfl h, .inl rfl, .inl rfl, fun _ => .inr ⟨.inr h3, rfl⟩⟩
      · rw [if_neg h3]
        by_cases h4 : op = 10
        · rw [if_pos h4]; exact ⟨fun _ h => absurd rfl h, .inl rfl, .inl rfl, fun _ => .inl rfl⟩
        · rw [if_neg h4]
          have key : ∀ r : Int × Int, r.2 ≠ 10 → StepS x m op A C (if r.2 = 0 then ({ x with Regs := x.Regs.set A r.1, Pc := IntKind.wrap .i64 (x.Pc + 1) }, m, 0) else (x, m, r.2)) := by
            intro r hr
            by_cases h5 : r.2 = 0
            · rw [if_pos h5]; exact ⟨fun h => absurd rfl h, .inr ⟨_, rfl⟩, .inl rfl, fun _ => .inl rfl⟩
            · rw [if_neg h5]; exact StepS.same h5 hr
          refine key _ ?_
          split
          · simp
          · split
            · exact calcF_2 _ _ _
            · split
              · simp
              · exact negF_2 _
theorem stepF_fault (x : DCore) (t m : List Int) (h0 : (stepF x t m).2.2 ≠ 0) (h1 : (stepF x t m).2.2 ≠ 10) : (stepF x t m).1 = x ∧ (stepF x t m).2.1 = m := by
  unfold stepF at h0 h1 ⊢
  by_cases hc : coreOkF x = true ∧ (0 ≤ x.Pc ∧ x.Pc ≤ (t.length : Int) - 1) ∧ decOk (t.getD x.Pc.toNat 0) = true
  · rw [if_pos hc] at h0 h1 ⊢
    exact (stepG_shape _ _ _ _ _ _).fault h0 h1
  · rw [if_neg hc]; exact ⟨rfl, rfl⟩
theorem stepF_good (x : DCore) (t m : List Int) (h : (stepF x t m).2.2 = 0 ∨ (stepF x t m).2.2 = 10) : coreOkF x = true ∧ (0 ≤ x.Pc ∧ x.Pc ≤ (t.length : Int) - 1) ∧ decOk (t.getD x.Pc.toNat 0) = true ∧ stepF x t m = stepG x m (dOp (t.getD x.Pc.toNat 0)) (dA (t.getD x.Pc.toNat 0)).toNat (dB (t.getD x.Pc.toNat 0)).toNat (dC (t.getD x.Pc.toNat 0)).toNat := by
  by_cases hc : coreOkF x = true ∧ (0 ≤ x.Pc ∧ x.Pc ≤ (t.length : Int) - 1) ∧ decOk (t.getD x.Pc.toNat 0) = true
  · refine ⟨hc.1, hc.2.1, hc.2.2, ?_⟩
    unfold stepF; rw [if_pos hc]
  · exfalso
    unfold stepF at h
    rw [if_neg hc] at h
    simp at h
theorem stepG_regs (x : DCore) (m : List Int) (op : Int) (A B C : Nat) : (stepG x m op A B C).1.Regs.length = x.Regs.length ∧ ∀ i, i ≠ A → (stepG x m op A B C).1.Regs.getD i 0 = x.Regs.getD i 0 := by
  rcases (stepG_shape x m op A B C).regs with h | ⟨v, h⟩
  · rw [h]; exact ⟨rfl, fun _ _ => rfl⟩
  · rw [h]; exact ⟨List.length_set, fun i hi => getD_set_other hi⟩
theorem stepG_mem (x : DCore) (m : List Int) (op : Int) (A B C : Nat) : (stepG x m op A B C).2.1.length = m.length ∧ ∀ i, (stepG x m op A B C).2.1.getD i 0 = m.getD i 0 ∨ (i = C ∧ (op = 3 ∨ op = 9)) := by
  rcases (stepG_shape x m op A B C).mem with h | ⟨h2, v, h⟩
  · rw [h]; exact ⟨rfl, fun _ => .inl rfl⟩
  · rw [h]
    refine ⟨List.length_set, fun i => ?_⟩
    by_cases hi : i = C
    · exact .inr ⟨hi, h2⟩
    · exact .inl (getD_set_other hi)
theorem stepG_pc (x : DCore) (m : List Int) (op : Int) (A B C : Nat) (h : (stepG x m op A B C).2.2 = 0 ∨ (stepG x m op A B C).2.2 = 10) : (stepG x m op A B C).1.Pc = IntKind.wrap .i64 (x.Pc + 1) ∨ ((op = 7 ∨ op = 8) ∧ (stepG x m op A B C).1.Pc = (C : Int)) := (stepG_shape x m op A B C).pc h
theorem getRowZ (xs : List Int) {i : Nat} (h : i < xs.length) : (xs.map cI).getD i [] = cI (xs.getD i 0) := by
  rw [getRow cI xs h]; simp [h]
theorem cores_loop0 (x a : DCore) (m n : List Int) (op A B C : Int) (hlen : n.length = m.length) (hm : m.length ≤ 100) (hch : ∀ i, n.getD i 0 = m.getD i 0 ∨ ((i : Int) = C ∧ (op = 3 ∨ op = 9))) : loopV X_laws_FnCores 0 [3, 5, 6, 7, 12, 14] [(1, [3, 6, 12]), (0, [2])] B0_laws_FnCores ⟨[(3, .ptr ⟨0, none, 0⟩ 3 0 0), (5, .sl ⟨2, none, 0⟩ 1 0 m.length), (6, .ptr ⟨3, none, 0⟩ 3 0 0), (7, .sl ⟨5, none, 0⟩ 1 0 n.length), (12, .ptr ⟨6, none, 0⟩ 4 0 0), (14, .int .i64 0)], [some ⟨true, 0, 3, [[.sl ⟨1, none, 0⟩ 1 0 x.Regs.length, .int .i64 x.Pc, .int .i64 x.Process]]⟩, some ⟨false, 0, 1, x.Regs.map cI⟩, some ⟨false, 0, 1, m.map cI⟩, some ⟨true, 0, 3, [[.sl ⟨4, none, 0⟩ 1 0 a.Regs.length, .int .i64 a.Pc, .int .i64 a.Process]]⟩, some ⟨false, 0, 1, a.Regs.map cI⟩, some ⟨false, 0, 1, n.map cI⟩, some ⟨true, 0, 4, [[.int .i64 op, .int .i64 A, .int .i64 B, .int .i64 C]]⟩]⟩ = some (.exit 0, ⟨[(3, .ptr ⟨0, none, 0⟩ 3 0 0), (6, .ptr ⟨2, none, 0⟩ 3 0 0), (12, .ptr ⟨4, none, 0⟩ 4 0 0)], [some ⟨true, 0, 3, [[.sl ⟨1, none, 0⟩ 1 0 x.Regs.length, .int .i64 x.Pc, .int .i64 x.Process]]⟩, some ⟨false, 0, 1, x.Regs.map cI⟩, some ⟨true, 0, 3, [[.sl ⟨3, none, 0⟩ 1 0 a.Regs.length, .int .i64 a.Pc, .int .i64 a.Process]]⟩, some ⟨false, 0, 1, a.Regs.map cI⟩, some ⟨true, 0, 4, [[.int .i64 op, .int .i64 A, .int .i64 B, .int .i64 C]]⟩]⟩) := by
  refine loop_list m (fun _ (_ : Unit) => True) (fun i _ => ⟨[(3, .ptr ⟨0, none, 0⟩ 3 0 0), (5, .sl ⟨2, none, 0⟩ 1 0 m.length), (6, .ptr ⟨3, none, 0⟩ 3 0 0), (7, .sl ⟨5, none, 0⟩ 1 0 n.length), (12, .ptr ⟨6, none, 0⟩ 4 0 0), (14, .int .i64 ((i : Nat) : Int))], [some ⟨true, 0, 3, [[.sl ⟨1, none, 0⟩ 1 0 x.Regs.length, .int .i64 x.Pc, .int .i64 x.Process]]⟩, some ⟨false, 0, 1, x.Regs.map cI⟩, some ⟨false, 0, 1, m.map cI⟩, some ⟨true, 0, 3, [[.sl ⟨4, none, 0⟩ 1 0 a.Regs.length, .int .i64 a.Pc, .int .i64 a.Process]]⟩, some ⟨false, 0, 1, a.Regs.map cI⟩, some ⟨false, 0, 1, n.map cI⟩, some ⟨true, 0, 4, [[.int .i64 op, .int .i64 A, .int .i64 B, .int .i64 C]]⟩]⟩) (fun _ _ => some (.exit 0, ⟨[(3, .ptr ⟨0, none, 0⟩ 3 0 0), (6, .ptr ⟨2, none, 0⟩ 3 0 0), (12, .ptr ⟨4, none, 0⟩ 4 0 0)], [some ⟨true, 0, 3, [[.sl ⟨1, none, 0⟩ 1 0 x.Regs.length, .int .i64 x.Pc, .int .i64 x.Process]]⟩, some ⟨false, 0, 1, x.Regs.map cI⟩, some ⟨true, 0, 3, [[.sl ⟨3, none, 0⟩ 1 0 a.Regs.length, .int .i64 a.Pc, .int .i64 a.Process]]⟩, some ⟨false, 0, 1, a.Regs.map cI⟩, some ⟨true, 0, 4, [[.int .i64 op, .int .i64 A, .int .i64 B, .int .i64 C]]⟩]⟩)) ?_ ?_ () trivial
  · intro _ _
    rw [loopV_by B0_laws_FnCores.eq_1]
    simp (maxSteps := 10000000) (disch := first | assumption | omega) only [EG, EL, ↓reduceIte, Nat.reduceEqDiff, Nat.reduceAdd, Nat.reduceSub, Nat.reduceMul, Nat.reduceLeDiff, Nat.reduceLT, Int.reduceLT, Int.reduceLE, Int.reduceEq, Int.reduceToNat, reduceCtorEq, FB, ED, EF, FT, cx_laws_FnCores, int_lt_irrefl]
  · rintro i hi0 y rest _ rfl rfl _ ih
    have hi : (i : Int) < (m.length : Int) := by omega
    have hn0 : i < n.length := by omega
    have hn1 : (i : Int) < (n.length : Int) := by omega
    have g1 := getRowZ m hi0
    have g2 := getRowZ n hn0
    have i1 := ih () trivial
    have hc := hch i
    generalize m.getD i 0 = u at g1 hc
    generalize n.getD i 0 = v at g2 hc
    rw [loopV_by B0_laws_FnCores.eq_1]
    by_cases he : v = u
    · have he' : (v = u) = True := eq_true he
      simp (maxSteps := 10000000) (disch := first | assumption | omega) only [EG, EL, ↓reduceIte, Nat.reduceEqDiff, Nat.reduceAdd, Nat.reduceSub, Nat.reduceMul, Nat.reduceLeDiff, Nat.reduceLT, Int.reduceLT, Int.reduceLE, Int.reduceEq, Int.reduceToNat, reduceCtorEq, FB, ED, EF, FT, cx_laws_FnCores, hi, hi0, hn0, hn1, g1, g2, he', decide_true, decide_false, wrap_succ, i1]
    · have he' : (v = u) = False := eq_false he
      rcases hc with hc | ⟨hc1, hc2⟩
      · exact absurd hc he
      · have hc1' : ((i : Int) = C) = True := eq_true hc1
        rcases hc2 with hc2 | hc2
        · have h3 : (op = 3) = True := eq_true hc2
          simp (maxSteps := 10000000) (disch := first | assumption | omega) only [EG, EL, ↓reduceIte, Nat.reduceEqDiff, Nat.reduceAdd, Nat.reduceSub, Nat.reduceMul, Nat.reduceLeDiff, Nat.reduceLT, Int.reduceLT, Int.reduceLE, Int.reduceEq, Int.reduceToNat, reduceCtorEq, FB, ED, EF, FT, cx_laws_FnCores, hi, hi0, hn0, hn1, g1, g2, he', hc1', h3, decide_true, decide_false, wrap_succ, i1]
        · have h3 : (op = 3) = False := eq_false (by omega)
          have h9 : (op = 9) = True := eq_true hc2
          simp (maxSteps := 10000000) (disch := first | assumption | omega) only [EG, EL, ↓reduceIte, Nat.reduceEqDiff, Nat.reduceAdd, Nat.reduceSub, Nat.reduceMul, Nat.reduceLeDiff, Nat.reduceLT, Int.reduceLT, Int.reduceLE, Int.reduceEq, Int.reduceToNat, reduceCtorEq, FB, ED, EF, FT, cx_laws_FnCores, hi, hi0, hn0, hn1, g1, g2, he', hc1', h3, h9, decide_true, decide_false, wrap_succ, i1]
theorem cores_loop1 (xs : List Unit) (hxs : xs.length = 8) (x a : DCore) (op A B C : Int) (hx : x.Regs.length = 8) (ha : a.Regs.length = 8) (hch : ∀ i : Nat, (i : Int) ≠ A → a.Regs.getD i 0 = x.Regs.getD i 0) : loopV X_laws_FnCores 0 [3, 6, 12, 15] [(3, [3, 6, 12]), (0, [2])] B1_laws_FnCores ⟨[(3, .ptr ⟨0, none, 0⟩ 3 0 0), (6, .ptr ⟨2, none, 0⟩ 3 0 0), (12, .ptr ⟨4, none, 0⟩ 4 0 0), (15, .int .i64 0)], [some ⟨true, 0, 3, [[.sl ⟨1, none, 0⟩ 1 0 x.Regs.length, .int .i64 x.Pc, .int .i64 x.Process]]⟩, some ⟨false, 0, 1, x.Regs.map cI⟩, some ⟨true, 0, 3, [[.sl ⟨3, none, 0⟩ 1 0 a.Regs.length, .int .i64 a.Pc, .int .i64 a.Process]]⟩, some ⟨false, 0, 1, a.Regs.map cI⟩, some ⟨true, 0, 4, [[.int .i64 op, .int .i64 A, .int .i64 B, .int .i64 C]]⟩]⟩ = some (.exit 2, ⟨[(3, .ptr ⟨0, none, 0⟩ 3 0 0), (6, .ptr ⟨2, none, 0⟩ 3 0 0), (12, .ptr ⟨4, none, 0⟩ 4 0 0)], [some ⟨true, 0, 3, [[.sl ⟨1, none, 0⟩ 1 0 x.Regs.length, .int .i64 x.Pc, .int .i64 x.Process]]⟩, some ⟨false, 0, 1, x.Regs.map cI⟩, some ⟨true, 0, 3, [[.sl ⟨3, none, 0⟩ 1 0 a.Regs.length, .int .i64 a.Pc, .int .i64 a.Process]]⟩, some ⟨false, 0, 1, a.Regs.map cI⟩, some ⟨true, 0, 4, [[.int .i64 op, .int .i64 A, .int .i64 B, .int .i64 C]]⟩]⟩) := by
  refine loop_list xs (fun _ (_ : Unit) => True) (fun i _ => ⟨[(3, .ptr ⟨0, none, 0⟩ 3 0 0), (6, .ptr ⟨2, none, 0⟩ 3 0 0), (12, .ptr ⟨4, none, 0⟩ 4 0 0), (15, .int .i64 ((i : Nat) : Int))], [some ⟨true, 0, 3, [[.sl ⟨1, none, 0⟩ 1 0 x.Regs.length, .int .i64 x.Pc, .int .i64 x.Process]]⟩, some ⟨false, 0, 1, x.Regs.map cI⟩, some ⟨true, 0, 3, [[.sl ⟨3, none, 0⟩ 1 0 a.Regs.length, .int .i64 a.Pc, .int .i64 a.Process]]⟩, some ⟨false, 0, 1, a.Regs.map cI⟩, some ⟨true, 0, 4, [[.int .i64 op, .int .i64 A, .int .i64 B, .int .i64 C]]⟩]⟩) (fun _ _ => some (.exit 2, ⟨[(3, .ptr ⟨0, none, 0⟩ 3 0 0), (6, .ptr ⟨2, none, 0⟩ 3 0 0), (12, .ptr ⟨4, none, 0⟩ 4 0 0)], [some ⟨true, 0, 3, [[.sl ⟨1, none, 0⟩ 1 0 x.Regs.length, .int .i64 x.Pc, .int .i64 x.Process]]⟩, some ⟨false, 0, 1, x.Regs.map cI⟩, some ⟨true, 0, 3, [[.sl ⟨3, none, 0⟩ 1 0 a.Regs.length, .int .i64 a.Pc, .int .i64 a.Process]]⟩, some ⟨false, 0, 1, a.Regs.map cI⟩, some ⟨true, 0, 4, [[.int .i64 op, .int .i64 A, .int .i64 B, .int .i64 C]]⟩]⟩)) ?_ ?_ () trivial
  · intro _ _
    have h8 : ((xs.length : Nat) : Int) = 8 := by omega
    rw [loopV_by B1_laws_FnCores.eq_1]
    simp (maxSteps := 10000000) (disch := first | assumption | omega) only [EG, EL, ↓reduceIte, Nat.reduceEqDiff, Nat.reduceAdd, Nat.reduceSub, Nat.reduceMul, Nat.reduceLeDiff, Nat.reduceLT, Int.reduceLT, Int.reduceLE, Int.reduceEq, Int.reduceToNat, reduceCtorEq, FB, ED, EF, FT, cx_laws_FnCores, h8]
  · rintro i hi0 y rest _ rfl rfl _ ih
    have h8 : (i : Int) < 8 := by omega
    have hi : (i : Int) < (x.Regs.length : Int) := by omega
    have hi1 : i < x.Regs.length := by omega
    have hn0 : i < a.Regs.length := by omega
    have hn1 : (i : Int) < (a.Regs.length : Int) := by omega
    have g1 := getRowZ x.Regs hi1
    have g2 := getRowZ a.Regs hn0
    have i1 := ih () trivial
    have hc := hch i
    generalize x.Regs.getD i 0 = u at g1 hc
    generalize a.Regs.getD i 0 = v at g2 hc
    rw [loopV_by B1_laws_FnCores.eq_1]
    by_cases he : v = u
    · have he' : (v = u) = True := eq_true he
      simp (maxSteps := 10000000) (disch := first | assumption | omega) only [EG, EL, ↓reduceIte, Nat.reduceEqDiff, Nat.reduceAdd, Nat.reduceSub, Nat.reduceMul, Nat.reduceLeDiff, Nat.reduceLT, Int.reduceLT, Int.reduceLE, Int.reduceEq, Int.reduceToNat, reduceCtorEq, FB, ED, EF, FT, cx_laws_FnCores, h8, hi, hi1, hn0, hn1, g1, g2, he', decide_true, decide_false, wrap_succ, i1]
    · have he' : (v = u) = False := eq_false he
      by_cases hA : (i : Int) = A
      · have hA' : ((i : Int) = A) = True := eq_true hA
        simp (maxSteps := 10000000) (disch := first | assumption | omega) only [EG, EL, ↓reduceIte, Nat.reduceEqDiff, Nat.reduceAdd, Nat.reduceSub, Nat.reduceMul, Nat.reduceLeDiff, Nat.reduceLT, Int.reduceLT, Int.reduceLE, Int.reduceEq, Int.reduceToNat, reduceCtorEq, FB, ED, EF, FT, cx_laws_FnCores, h8, hi, hi1, hn0, hn1, g1, g2, he', hA', decide_true, decide_false, wrap_succ, i1]
      · exact absurd (hc hA) he
set_option maxHeartbeats 4000000 in
theorem cores_bad (bs : List UInt8) (s0 : ¬ 1048576 < (bs.length : Int)) (x : DCore) (t m : List Int) (no : Int) (e1 : S_spec_DrawStepCore.sem [.tree 1 (bs.map cY)] = some (.tup [.agg (cCore x), .tree 1 (t.map cI), .tree 1 (m.map cI)], []))
  (e2 : S_impl_StepCore.sem [.agg (cCore x), .tree 1 (t.map cI), .tree 1 (m.map cI)] = some (.tup [.agg (cCore x), .tree 1 (m.map cI), .int .i64 no], [])) (e3 : S_spec_StepCore.sem [.agg (cCore x), .tree 1 (t.map cI), .tree 1 (m.map cI)] = some (.tup [.agg (cCore x), .tree 1 (m.map cI), .int .i64 no], []))
  (s1 : S_laws_sameCore.sem [.agg (cCore x), .agg (cCore x)] = some (.bool true, [])) (s2 : S_laws_sameInts.sem [.tree 1 (m.map cI), .tree 1 (m.map cI)] = some (.bool true, [])) (h0 : (no = 0) = False) (h10 : (no = 10) = False) :
  tru F_laws_FnCores.res (go X_laws_FnCores 0 [.c F_laws_FnCores.body] ⟨params 0 [.tree 1 (bs.map cY)], []⟩) := by
  simp only [cCore] at e1 e2 e3 s1
  simp (maxSteps := 10000000) (disch := first | assumption | omega) only [F_laws_FnCores, params, EG, EL, ↓reduceIte, Nat.reduceEqDiff, Nat.reduceAdd, Nat.reduceSub, Nat.reduceMul, Nat.reduceLeDiff, Nat.reduceLT, Int.reduceLT, Int.reduceLE, Int.reduceEq, Int.reduceToNat, reduceCtorEq, FB, ED, EF, FT, cx_laws_FnCores, cl_laws_big, sem_laws_big, tru_ret, tru_ite, s0, cl_spec_DrawStepCore, e1, cl_impl_StepCore, e2, cl_spec_StepCore, e3, cl_laws_sameCore, s1, cl_laws_sameInts, s2, h0, h10, decide_true, decide_false]
set_option maxHeartbeats 4000000 in
theorem cores_good (bs : List UInt8) (s0 : ¬ 1048576 < (bs.length : Int)) (x a : DCore) (t m n : List Int) (no w : Int) (e1 : S_spec_DrawStepCore.sem [.tree 1 (bs.map cY)] = some (.tup [.agg (cCore x), .tree 1 (t.map cI), .tree 1 (m.map cI)], []))
  (e2 : S_impl_StepCore.sem [.agg (cCore x), .tree 1 (t.map cI), .tree 1 (m.map cI)] = some (.tup [.agg (cCore a), .tree 1 (n.map cI), .int .i64 no], [])) (e3 : S_spec_StepCore.sem [.agg (cCore x), .tree 1 (t.map cI), .tree 1 (m.map cI)] = some (.tup [.agg (cCore a), .tree 1 (n.map cI), .int .i64 no], []))
  (s1 : S_laws_sameCore.sem [.agg (cCore a), .agg (cCore a)] = some (.bool true, [])) (s2 : S_laws_sameInts.sem [.tree 1 (n.map cI), .tree 1 (n.map cI)] = some (.bool true, [])) (hno : no = 0 ∨ no = 10)
  (hlen : n.length = m.length) (hm : m.length ≤ 100) (hp1 : 0 ≤ x.Pc) (hp2 : x.Pc < (t.length : Int)) (hg : (t.map cI).getD x.Pc.toNat [] = cI w) (hd : S_spec_Decode.sem [.int .i64 w] = some (.tup [.agg [.int .i64 (dOp w), .int .i64 (dA w), .int .i64 (dB w), .int .i64 (dC w)], .bool true], []))
  (hx : x.Regs.length = 8) (ha : a.Regs.length = 8) (hr : ∀ i : Nat, (i : Int) ≠ dA w → a.Regs.getD i 0 = x.Regs.getD i 0) (hch : ∀ i, n.getD i 0 = m.getD i 0 ∨ ((i : Int) = dC w ∧ (dOp w = 3 ∨ dOp w = 9)))
  (hpc : a.Pc = IntKind.wrap .i64 (x.Pc + 1) ∨ ((dOp w = 7 ∨ dOp w = 8) ∧ a.Pc = dC w)) :
  tru F_laws_FnCores.res (go X_laws_FnCores 0 [.c F_laws_FnCores.body] ⟨params 0 [.tree 1 (bs.map cY)], []⟩) := by
  have l0 := cores_loop0 x a m n (dOp w) (dA w) (dB w) (dC w) hlen hm hch
  have l1 := cores_loop1 (List.replicate 8 ()) (by simp) x a (dOp w) (dA w) (dB w) (dC w) hx ha hr
  have hp3 : x.Pc.toNat < t.length := by omega
  have hl : (n.length : Int) = (m.length : Int) := by omega
  simp only [cCore] at e1 e2 e3 s1
  rcases hno with hno | hno
  all_goals by_cases c1 : a.Pc = IntKind.wrap .i64 (x.Pc + 1)
  all_goals first
    | (have c1' : (a.Pc = IntKind.wrap .i64 (x.Pc + 1)) = True := eq_true c1
       simp (maxSteps := 10000000) (disch := first | assumption | omega) only [F_laws_FnCores, params, EG, EL, ↓reduceIte, Nat.reduceEqDiff, Nat.reduceAdd, Nat.reduceSub, Nat.reduceMul, Nat.reduceLeDiff, Nat.reduceLT, Int.reduceLT, Int.reduceLE, Int.reduceEq, Int.reduceToNat, reduceCtorEq, FB, ED, EF, FT, cx_laws_FnCores, cl_laws_big, sem_laws_big, tru_ret, tru_ite, s0, cl_spec_DrawStepCore, e1, cl_impl_StepCore, e2, cl_spec_StepCore, e3, cl_laws_sameCore, s1, cl_laws_sameInts, s2, hl, hno, hp1, hp2, hp3, hg, cl_spec_Decode, hd, l0, l1, c1', decide_true, decide_false]
       done)
    | (have c1' : (a.Pc = IntKind.wrap .i64 (x.Pc + 1)) = False := eq_false c1
       have c2 := hpc.resolve_left c1
       have c3 : (a.Pc = dC w) = True := eq_true c2.2
       by_cases c4 : dOp w = 7
       · have c5 : (dOp w = 7) = True := eq_true c4
         simp (maxSteps := 10000000) (disch := first | assumption | omega) only [F_laws_FnCores, params, EG, EL, ↓reduceIte, Nat.reduceEqDiff, Nat.reduceAdd, Nat.reduceSub, Nat.reduceMul, Nat.reduceLeDiff, Nat.reduceLT, Int.reduceLT, Int.reduceLE, Int.reduceEq, Int.reduceToNat, reduceCtorEq, FB, ED, EF, FT, cx_laws_FnCores, cl_laws_big, sem_laws_big, tru_ret, tru_ite, s0, cl_spec_DrawStepCore, e1, cl_impl_StepCore, e2, cl_spec_StepCore, e3, cl_laws_sameCore, s1, cl_laws_sameInts, s2, hl, hno, hp1, hp2, hp3, hg, cl_spec_Decode, hd, l0, l1, c1', c3, c5, decide_true, decide_false]
       · have c5 : (dOp w = 7) = False := eq_false c4
         have c6 : (dOp w = 8) = True := eq_true (by rcases c2.1 with h | h; exact absurd h c4; exact h)
         simp (maxSteps := 10000000) (disch := first | assumption | omega) only [F_laws_FnCores, params, EG, EL, ↓reduceIte, Nat.reduceEqDiff, Nat.reduceAdd, Nat.reduceSub, Nat.reduceMul, Nat.reduceLeDiff, Nat.reduceLT, Int.reduceLT, Int.reduceLE, Int.reduceEq, Int.reduceToNat, reduceCtorEq, FB, ED, EF, FT, cx_laws_FnCores, cl_laws_big, sem_laws_big, tru_ret, tru_ite, s0, cl_spec_DrawStepCore, e1, cl_impl_StepCore, e2, cl_spec_StepCore, e3, cl_laws_sameCore, s1, cl_laws_sameInts, s2, hl, hno, hp1, hp2, hp3, hg, cl_spec_Decode, hd, l0, l1, c1', c3, c5, c6, decide_true, decide_false])
theorem law_FnCores (bs : List UInt8) (hb : bs.length ≤ 140737488351232) : tru F_laws_FnCores.res (go X_laws_FnCores 0 [.c F_laws_FnCores.body] ⟨params 0 [.tree 1 (bs.map cY)], []⟩) := by
  by_cases s0 : 1048576 < (bs.length : Int)
  · simp (maxSteps := 10000000) (disch := first | assumption | omega) only [F_laws_FnCores, params, EG, EL, ↓reduceIte, Nat.reduceEqDiff, Nat.reduceAdd, Nat.reduceSub, Nat.reduceMul, Nat.reduceLeDiff, Nat.reduceLT, Int.reduceLT, Int.reduceLE, Int.reduceEq, Int.reduceToNat, reduceCtorEq, FB, ED, EF, FT, cx_laws_FnCores, cl_laws_big, sem_laws_big, tru_ret, tru_ite, s0]
  · have e1 := sem_spec_DrawStepCore bs (by omega)
    have hl := @stepDraw_len bs
    generalize stepDraw bs = D at e1 hl
    obtain ⟨x, t, m⟩ := D
    simp only at e1 hl
    obtain ⟨l1, l2, l3⟩ := hl
    have e2 := sem_impl_StepCore x t m (by omega) (by omega) (by omega)
    have e3 := sem_spec_StepCore x t m (by omega) (by omega) (by omega)
    by_cases hno : (stepF x t m).2.2 = 0 ∨ (stepF x t m).2.2 = 10
    · obtain ⟨h1, h2, h3, h4⟩ := stepF_good x t m hno
      have hp := coreOk_len h1
      have hw : x.Pc.toNat < t.length := by omega
      have g1 := getRowZ t hw
      obtain ⟨op, A, B, C, b1, b2, b3, b4, b5, b6, b7, b8⟩ := decOk_bounds h3
      have hd := sem_spec_Decode (t.getD x.Pc.toNat 0)
      unfold decR at hd
      rw [if_pos h3] at hd
      generalize t.getD x.Pc.toNat 0 = w at g1 h3 h4 hd b1 b2 b3 b4
      have r1 := stepG_regs x m (dOp w) (dA w).toNat (dB w).toNat (dC w).toNat
      have r2 := stepG_mem x m (dOp w) (dA w).toNat (dB w).toNat (dC w).toNat
      have r3 := stepG_pc x m (dOp w) (dA w).toNat (dB w).toNat (dC w).toNat (by rw [← h4]; exact hno)
      rw [← h4] at r1 r2 r3
      have s1 := sem_laws_sameCore_same (stepF x t m).1 (by rw [r1.1]; omega)
      have s2 := sem_laws_sameInts_same (stepF x t m).2.1 (by rw [r2.1]; omega)
      refine cores_good bs s0 x (stepF x t m).1 t m (stepF x t m).2.1 (stepF x t m).2.2 w e1 e2 e3 s1 s2 hno r2.1 (by omega) h2.1 (by omega) g1 hd hp.1 (by rw [r1.1]; exact hp.1) (fun i hi => r1.2 i (by omega)) (fun i => ?_) ?_
      · rcases r2.2 i with h | ⟨h, h'⟩
        · exact .inl h
        · exact .inr ⟨by omega, h'⟩
      · rcases r3 with h | ⟨h, h'⟩
        · exact .inl h
        · exact .inr ⟨h, by rw [h', b4]; omega⟩
    · have hf := stepF_fault x t m (fun h => hno (.inl h)) (fun h => hno (.inr h))
      rw [hf.1, hf.2] at e2 e3
      have s1 := sem_laws_sameCore_same x (by omega)
      have s2 := sem_laws_sameInts_same m (by omega)
      exact cores_bad bs s0 x t m _ e1 e2 e3 s1 s2 (eq_false fun h => hno (.inl h)) (eq_false fun h => hno (.inr h))

end Go.Proofs.Ytdhmlhlpdejefaa.AI
